/- Heads and ARP packets as bytes that are written later. -/
import Derived.Test.YtfjhanjpacghkaaEtM1
import Derived.Test.YtfjhanjpacghkaaEtT3
set_option linter.unusedSimpArgs false
set_option linter.unusedVariables false
set_option maxRecDepth 100000
namespace Go.Proofs.Ytfjhanjpacghkaa
open Go Go.Vm Go.Proofs
def okArp (op sha tha : Int) : Prop := sha ≤ 281474976710655 ∧ tha ≤ 281474976710655 ∧ 0 ≤ op ∧ op ≤ 65535
instance (op sha tha : Int) : Decidable (okArp op sha tha) := by unfold okArp; infer_instance
def encA (op sha spa tha tpa : Int) : List UInt8 := bytesL 4429186564 6 ++ bytesL op 2 ++ bytesL sha 6 ++ bytesL spa 4 ++ bytesL tha 6 ++ bytesL tpa 4
namespace M
theorem tr {k : FuncId} {args : List V} {st st' : St} {v : V} (h : FnS Ytfjhanjpacghkaa.cx k args st v st') : FnS cx k args st v st' :=
  ⟨h.ex.tr Ytfjhanjpacghkaa.cx_ok Ytfjhanjpacghkaa.glob_pure Ytfjhanjpacghkaa.libs_ok rfl rfl rfl rfl⟩
theorem wordS (n : Int) (st : St) : FnS cx 20 [.int .i64 n] st (.bool (decide (0 ≤ n ∧ n ≤ 65535))) st := tr ⟨word_run n st _ ⟨rfl, rfl⟩⟩
theorem wordT (n : Int) (h0 : 0 ≤ n) (h1 : n ≤ 65535) (st : St) : FnS cx 20 [.int .i64 n] st (.bool true) st := by
  have := wordS n st
  rwa [decide_eq_true (by omega)] at this
theorem livesS (st : St) : FnS cx 10 [] st (.bool true) st := tr (Ytfjhanjpacghkaa.livesS st)
theorem put2 (H : List (Nat × Ob)) (n k : Nat) (l : List UInt8) (len : Nat) (hll : l.length = len) (hl : len ≤ 1000) (x : Int) (hx : 0 ≤ x) : FnS cx 21 [.msl k 0 len (ownC 1), .int .u64 x, .int .i64 2] ⟨(k, .cells (ofBytes l)) :: H, n⟩ (.msl (n + 1) 0 (len + 2) (ownC 1)) ⟨(n + 1, .cells (ofBytes (l ++ bytesL x 2))) :: H, n + 2⟩ := putS H n k l len hll hl x hx 2 (by omega) (by omega)
theorem put4 (H : List (Nat × Ob)) (n k : Nat) (l : List UInt8) (len : Nat) (hll : l.length = len) (hl : len ≤ 1000) (x : Int) (hx : 0 ≤ x) : FnS cx 21 [.msl k 0 len (ownC 1), .int .u64 x, .int .i64 4] ⟨(k, .cells (ofBytes l)) :: H, n⟩ (.msl (n + 3) 0 (len + 4) (ownC 1)) ⟨(n + 3, .cells (ofBytes (l ++ bytesL x 4))) :: H, n + 4⟩ := putS H n k l len hll hl x hx 4 (by omega) (by omega)
theorem put6 (H : List (Nat × Ob)) (n k : Nat) (l : List UInt8) (len : Nat) (hll : l.length = len) (hl : len ≤ 1000) (x : Int) (hx : 0 ≤ x) : FnS cx 21 [.msl k 0 len (ownC 1), .int .u64 x, .int .i64 6] ⟨(k, .cells (ofBytes l)) :: H, n⟩ (.msl (n + 5) 0 (len + 6) (ownC 1)) ⟨(n + 5, .cells (ofBytes (l ++ bytesL x 6))) :: H, n + 6⟩ := putS H n k l len hll hl x hx 6 (by omega) (by omega)
theorem putN6 (H : List (Nat × Ob)) (n : Nat) (x : Int) (hx : 0 ≤ x) : FnS cx 21 [.sl .full [], .int .u64 x, .int .i64 6] ⟨H, n⟩ (.msl (n + 5) 0 6 (ownC 1)) ⟨(n + 5, .cells (ofBytes (bytesL x 6))) :: H, n + 6⟩ := putF H n [] 0 rfl (by omega) x hx 6 (by omega) (by omega)
theorem putA2 (H : List (Nat × Ob)) (n : Nat) (x : Int) (hx : 0 ≤ x) : FnS cx 21 [.sl .full (ofBytes (bytesL 4429186564 6)), .int .u64 x, .int .i64 2] ⟨H, n⟩ (.msl (n + 1) 0 8 (ownC 1)) ⟨(n + 1, .cells (ofBytes (bytesL 4429186564 6 ++ bytesL x 2))) :: H, n + 2⟩ := putF H n _ 6 (by simp [bytesL_length]) (by omega) x hx 2 (by omega) (by omega)

set_option maxHeartbeats 4000000 in
theorem encP (H : List (Nat × Ob)) (d sr tag ty : Int) (hd : 0 ≤ d) (hs : 0 ≤ sr) (h1 : d ≤ 281474976710655) (h2 : sr ≤ 281474976710655) (h4 : 0 ≤ ty ∧ ty ≤ 65535) (h5 : ty ≠ 33024) :
    FnS cx 11 [.agg [.int .u64 d, .int .u64 sr, .bool false, .int .i64 0, .int .i64 ty]] ⟨H, 2⟩ (.tup [.msl 16 0 14 (ownC 1), .int .i64 0]) ⟨(16, .cells (ofBytes (encL d sr false 0 ty))) :: (2, .cells [.int .u64 d, .int .u64 sr, .bool false, .int .i64 0, .int .i64 ty]) :: H, 17⟩ := by
  refine goS Try.func11 rfl rfl rfl rfl ?_
  intro t ht
  have a0 : tget t 0 = .agg [.int .u64 d, .int .u64 sr, .bool false, .int .i64 0, .int .i64 ty] := ht 0 _ rfl
  clear ht
  have ex := @a0
  repeat' (first
   | (with_reducible refine isO ?_); first
     | refine mvA (h := ?_)
     | refine asA (h := ?_)
     | refine quA (h := ?_)
     | refine caA (hc := wordT _ (by omega) (by omega) _) (h := ?_)
     | refine caA (hc := putN6 _ _ _ (by omega)) (h := ?_)
     | refine caA (hc := put2 _ _ _ _ _ (by simp [bytesL_length]) (by omega) _ (by omega)) (h := ?_)
     | refine caA (hc := put4 _ _ _ _ _ (by simp [bytesL_length]) (by omega) _ (by omega)) (h := ?_)
     | refine caA (hc := put6 _ _ _ _ _ (by simp [bytesL_length]) (by omega) _ (by omega)) (h := ?_)
   | (with_reducible refine isG ?_); first
     | refine stA (h := ?_)
     | refine srA (h := ?_)
     | refine swA (h := ?_)
     | refine s1A (h := ?_)
     | refine s0A (h := ?_)
     | refine sgA (h1 := fun _ => ?_) (h0 := fun _ => ?_)
     | refine sbA (h1 := fun _ => ?_) (h0 := fun _ => ?_)
   | (with_reducible refine isP ?_); first
     | refine dqA (h := ?_)
     | refine dcA (i := 2) (l := [4]) (hc := putN6 _ _ _ (by omega)) (h := ?_)
     | refine dcA (i := 2) (l := [4]) (hc := put2 _ _ _ _ _ (by simp [bytesL_length]) (by omega) _ (by omega)) (h := ?_)
     | refine dcA (i := 2) (l := [4]) (hc := put4 _ _ _ _ _ (by simp [bytesL_length]) (by omega) _ (by omega)) (h := ?_)
     | refine dcA (i := 2) (l := [4]) (hc := put6 _ _ _ _ _ (by simp [bytesL_length]) (by omega) _ (by omega)) (h := ?_)
     | refine dcA (i := 5) (l := []) (hc := putN6 _ _ _ (by omega)) (h := ?_)
     | refine dcA (i := 5) (l := []) (hc := put2 _ _ _ _ _ (by simp [bytesL_length]) (by omega) _ (by omega)) (h := ?_)
     | refine dcA (i := 5) (l := []) (hc := put4 _ _ _ _ _ (by simp [bytesL_length]) (by omega) _ (by omega)) (h := ?_)
     | refine dcA (i := 5) (l := []) (hc := put6 _ _ _ _ _ (by simp [bytesL_length]) (by omega) _ (by omega)) (h := ?_)
     | refine dcA (i := 1) (l := [4, 3]) (hc := putN6 _ _ _ (by omega)) (h := ?_)
     | refine dcA (i := 1) (l := [4, 3]) (hc := put2 _ _ _ _ _ (by simp [bytesL_length]) (by omega) _ (by omega)) (h := ?_)
     | refine dcA (i := 1) (l := [4, 3]) (hc := put4 _ _ _ _ _ (by simp [bytesL_length]) (by omega) _ (by omega)) (h := ?_)
     | refine dcA (i := 1) (l := [4, 3]) (hc := put6 _ _ _ _ _ (by simp [bytesL_length]) (by omega) _ (by omega)) (h := ?_)
     | refine dlA (i := 6) (l := []) (h := ?_)
   | (with_reducible refine isC ?_); first
     | refine ctA (h := ?_)
     | refine cfA (h := ?_)
     | refine cdA (h1 := fun _ => ?_) (h0 := fun _ => ?_)
     | refine cbA (h1 := fun _ => ?_) (h0 := fun _ => ?_)
   | (with_reducible refine isR ?_); first
     | refine Ev.drawn (by decide +kernel) (l := [0, 1, 3, 4, 2, 5, 6]) (by decide +kernel) ?_
     | refine Ev.drawn (by decide +kernel) (l := [0, 2, 3, 4, 1, 5, 6]) (by decide +kernel) ?_
   | with_reducible refine Ev.seq ?_
   | with_reducible refine Ev.ops ?_
   | with_reducible refine NxE ?_
   | with_reducible refine BxN ?_
   | with_reducible refine BxX ?_
   | with_reducible refine NxX ?_
   | with_reducible refine NxR ?_
   | with_reducible refine BxR ?_
   | with_reducible refine NxG ?_
   | with_reducible refine BxG ?_
   | with_reducible refine GxR ?_
   | with_reducible refine GxN ?_
   | with_reducible refine GxX ?_
   | with_reducible refine Ev.goto ?_
   | with_reducible refine Ev.block ?_
   | with_reducible refine Ev.skip ?_
   | with_reducible refine Ev.exit ?_
   | with_reducible refine Ev.ret ?_
   | with_reducible refine Ev.label ?_
   | with_reducible refine EvOps.nil ?_
   | with_reducible refine EvPlan.nil ?_
   | (with_reducible refine BxO ?_ ?_; · decide)
   )
  all_goals first
    | (exfalso; omega)
    | (refine lsA (rl := [.tmp 2, .tmp 3]) rfl (hv := by
      simp only [leaveV, packV, strip, stripAgg, stripCell, hdrop, Nat.reduceLeDiff, List.map_cons, List.map_nil, show cx.grow 11 = true from rfl, show cx.keep 11 = true from rfl, show cx.frz 11 = false from rfl, if_false, if_true, Bool.false_eq_true]
      first | done | rfl | simp only [List.append_assoc] | omega))

set_option maxHeartbeats 4000000 in
theorem encT (H : List (Nat × Ob)) (d sr tag ty : Int) (hd : 0 ≤ d) (hs : 0 ≤ sr) (h1 : d ≤ 281474976710655) (h2 : sr ≤ 281474976710655) (h3 : 0 ≤ tag ∧ tag ≤ 65535) (h4 : 0 ≤ ty ∧ ty ≤ 65535) (h5 : ty ≠ 33024) :
    FnS cx 11 [.agg [.int .u64 d, .int .u64 sr, .bool true, .int .i64 tag, .int .i64 ty]] ⟨H, 2⟩ (.tup [.msl 20 0 18 (ownC 1), .int .i64 0]) ⟨(20, .cells (ofBytes (encL d sr true tag ty))) :: (2, .cells [.int .u64 d, .int .u64 sr, .bool true, .int .i64 tag, .int .i64 ty]) :: H, 21⟩ := by
  refine goS Try.func11 rfl rfl rfl rfl ?_
  intro t ht
  have a0 : tget t 0 = .agg [.int .u64 d, .int .u64 sr, .bool true, .int .i64 tag, .int .i64 ty] := ht 0 _ rfl
  clear ht
  have ex := @a0
  repeat' (first
   | (with_reducible refine isO ?_); first
     | refine mvA (h := ?_)
     | refine asA (h := ?_)
     | refine quA (h := ?_)
     | refine caA (hc := wordT _ (by omega) (by omega) _) (h := ?_)
     | refine caA (hc := putN6 _ _ _ (by omega)) (h := ?_)
     | refine caA (hc := put2 _ _ _ _ _ (by simp [bytesL_length]) (by omega) _ (by omega)) (h := ?_)
     | refine caA (hc := put4 _ _ _ _ _ (by simp [bytesL_length]) (by omega) _ (by omega)) (h := ?_)
     | refine caA (hc := put6 _ _ _ _ _ (by simp [bytesL_length]) (by omega) _ (by omega)) (h := ?_)
   | (with_reducible refine isG ?_); first
     | refine stA (h := ?_)
     | refine srA (h := ?_)
     | refine swA (h := ?_)
     | refine s1A (h := ?_)
     | refine s0A (h := ?_)
     | refine sgA (h1 := fun _ => ?_) (h0 := fun _ => ?_)
     | refine sbA (h1 := fun _ => ?_) (h0 := fun _ => ?_)
   | (with_reducible refine isP ?_); first
     | refine dqA (h := ?_)
     | refine dcA (i := 2) (l := [4]) (hc := putN6 _ _ _ (by omega)) (h := ?_)
     | refine dcA (i := 2) (l := [4]) (hc := put2 _ _ _ _ _ (by simp [bytesL_length]) (by omega) _ (by omega)) (h := ?_)
     | refine dcA (i := 2) (l := [4]) (hc := put4 _ _ _ _ _ (by simp [bytesL_length]) (by omega) _ (by omega)) (h := ?_)
     | refine dcA (i := 2) (l := [4]) (hc := put6 _ _ _ _ _ (by simp [bytesL_length]) (by omega) _ (by omega)) (h := ?_)
     | refine dcA (i := 5) (l := []) (hc := putN6 _ _ _ (by omega)) (h := ?_)
     | refine dcA (i := 5) (l := []) (hc := put2 _ _ _ _ _ (by simp [bytesL_length]) (by omega) _ (by omega)) (h := ?_)
     | refine dcA (i := 5) (l := []) (hc := put4 _ _ _ _ _ (by simp [bytesL_length]) (by omega) _ (by omega)) (h := ?_)
     | refine dcA (i := 5) (l := []) (hc := put6 _ _ _ _ _ (by simp [bytesL_length]) (by omega) _ (by omega)) (h := ?_)
     | refine dcA (i := 1) (l := [4, 3]) (hc := putN6 _ _ _ (by omega)) (h := ?_)
     | refine dcA (i := 1) (l := [4, 3]) (hc := put2 _ _ _ _ _ (by simp [bytesL_length]) (by omega) _ (by omega)) (h := ?_)
     | refine dcA (i := 1) (l := [4, 3]) (hc := put4 _ _ _ _ _ (by simp [bytesL_length]) (by omega) _ (by omega)) (h := ?_)
     | refine dcA (i := 1) (l := [4, 3]) (hc := put6 _ _ _ _ _ (by simp [bytesL_length]) (by omega) _ (by omega)) (h := ?_)
     | refine dlA (i := 6) (l := []) (h := ?_)
   | (with_reducible refine isC ?_); first
     | refine ctA (h := ?_)
     | refine cfA (h := ?_)
     | refine cdA (h1 := fun _ => ?_) (h0 := fun _ => ?_)
     | refine cbA (h1 := fun _ => ?_) (h0 := fun _ => ?_)
   | (with_reducible refine isR ?_); first
     | refine Ev.drawn (by decide +kernel) (l := [0, 1, 3, 4, 2, 5, 6]) (by decide +kernel) ?_
     | refine Ev.drawn (by decide +kernel) (l := [0, 2, 3, 4, 1, 5, 6]) (by decide +kernel) ?_
   | with_reducible refine Ev.seq ?_
   | with_reducible refine Ev.ops ?_
   | with_reducible refine NxE ?_
   | with_reducible refine BxN ?_
   | with_reducible refine BxX ?_
   | with_reducible refine NxX ?_
   | with_reducible refine NxR ?_
   | with_reducible refine BxR ?_
   | with_reducible refine NxG ?_
   | with_reducible refine BxG ?_
   | with_reducible refine GxR ?_
   | with_reducible refine GxN ?_
   | with_reducible refine GxX ?_
   | with_reducible refine Ev.goto ?_
   | with_reducible refine Ev.block ?_
   | with_reducible refine Ev.skip ?_
   | with_reducible refine Ev.exit ?_
   | with_reducible refine Ev.ret ?_
   | with_reducible refine Ev.label ?_
   | with_reducible refine EvOps.nil ?_
   | with_reducible refine EvPlan.nil ?_
   | (with_reducible refine BxO ?_ ?_; · decide)
   )
  all_goals first
    | (exfalso; omega)
    | (refine lsA (rl := [.tmp 2, .tmp 3]) rfl (hv := by
      simp only [leaveV, packV, strip, stripAgg, stripCell, hdrop, Nat.reduceLeDiff, List.map_cons, List.map_nil, show cx.grow 11 = true from rfl, show cx.keep 11 = true from rfl, show cx.frz 11 = false from rfl, if_false, if_true, Bool.false_eq_true]
      first | done | rfl | simp only [List.append_assoc] | omega))

set_option maxHeartbeats 4000000 in
theorem encPb (H : List (Nat × Ob)) (d sr tag ty : Int) (hd : 0 ≤ d) (hs : 0 ≤ sr) (hno : ¬ (d ≤ 281474976710655 ∧ sr ≤ 281474976710655 ∧ (0 ≤ tag ∧ tag ≤ 65535) ∧ (0 ≤ ty ∧ ty ≤ 65535) ∧ ty ≠ 33024 ∧ tag = 0)) :
    FnS cx 11 [.agg [.int .u64 d, .int .u64 sr, .bool false, .int .i64 tag, .int .i64 ty]] ⟨H, 2⟩ (.tup [.sl .full [], .int .i64 1]) ⟨(2, .cells [.int .u64 d, .int .u64 sr, .bool false, .int .i64 tag, .int .i64 ty]) :: H, 3⟩ := by
  refine goS Try.func11 rfl rfl rfl rfl ?_
  intro t ht
  have a0 : tget t 0 = .agg [.int .u64 d, .int .u64 sr, .bool false, .int .i64 tag, .int .i64 ty] := ht 0 _ rfl
  clear ht
  have ex := @a0
  repeat' (first
   | (with_reducible refine isO ?_); first
     | refine mvA (h := ?_)
     | refine asA (h := ?_)
     | refine quA (h := ?_)
     | refine caA (hc := wordS _ _) (h := ?_)
     | refine caA (hc := putN6 _ _ _ (by omega)) (h := ?_)
     | refine caA (hc := put2 _ _ _ _ _ (by simp [bytesL_length]) (by omega) _ (by omega)) (h := ?_)
     | refine caA (hc := put4 _ _ _ _ _ (by simp [bytesL_length]) (by omega) _ (by omega)) (h := ?_)
     | refine caA (hc := put6 _ _ _ _ _ (by simp [bytesL_length]) (by omega) _ (by omega)) (h := ?_)
   | (with_reducible refine isG ?_); first
     | refine stA (h := ?_)
     | refine srA (h := ?_)
     | refine swA (h := ?_)
     | refine s1A (h := ?_)
     | refine s0A (h := ?_)
     | refine sgA (h1 := fun _ => ?_) (h0 := fun _ => ?_)
     | refine sbA (h1 := fun _ => ?_) (h0 := fun _ => ?_)
   | (with_reducible refine isP ?_); first
     | refine dqA (h := ?_)
     | refine dcA (i := 2) (l := [4]) (hc := putN6 _ _ _ (by omega)) (h := ?_)
     | refine dcA (i := 2) (l := [4]) (hc := put2 _ _ _ _ _ (by simp [bytesL_length]) (by omega) _ (by omega)) (h := ?_)
     | refine dcA (i := 2) (l := [4]) (hc := put4 _ _ _ _ _ (by simp [bytesL_length]) (by omega) _ (by omega)) (h := ?_)
     | refine dcA (i := 2) (l := [4]) (hc := put6 _ _ _ _ _ (by simp [bytesL_length]) (by omega) _ (by omega)) (h := ?_)
     | refine dcA (i := 5) (l := []) (hc := putN6 _ _ _ (by omega)) (h := ?_)
     | refine dcA (i := 5) (l := []) (hc := put2 _ _ _ _ _ (by simp [bytesL_length]) (by omega) _ (by omega)) (h := ?_)
     | refine dcA (i := 5) (l := []) (hc := put4 _ _ _ _ _ (by simp [bytesL_length]) (by omega) _ (by omega)) (h := ?_)
     | refine dcA (i := 5) (l := []) (hc := put6 _ _ _ _ _ (by simp [bytesL_length]) (by omega) _ (by omega)) (h := ?_)
     | refine dcA (i := 1) (l := [4, 3]) (hc := putN6 _ _ _ (by omega)) (h := ?_)
     | refine dcA (i := 1) (l := [4, 3]) (hc := put2 _ _ _ _ _ (by simp [bytesL_length]) (by omega) _ (by omega)) (h := ?_)
     | refine dcA (i := 1) (l := [4, 3]) (hc := put4 _ _ _ _ _ (by simp [bytesL_length]) (by omega) _ (by omega)) (h := ?_)
     | refine dcA (i := 1) (l := [4, 3]) (hc := put6 _ _ _ _ _ (by simp [bytesL_length]) (by omega) _ (by omega)) (h := ?_)
     | refine dlA (i := 6) (l := []) (h := ?_)
   | (with_reducible refine isC ?_); first
     | refine ctA (h := ?_)
     | refine cfA (h := ?_)
     | refine cdA (h1 := fun _ => ?_) (h0 := fun _ => ?_)
     | refine cbA (h1 := fun _ => ?_) (h0 := fun _ => ?_)
   | (with_reducible refine isR ?_); first
     | refine Ev.drawn (by decide +kernel) (l := [0, 1, 3, 4, 2, 5, 6]) (by decide +kernel) ?_
     | refine Ev.drawn (by decide +kernel) (l := [0, 2, 3, 4, 1, 5, 6]) (by decide +kernel) ?_
   | with_reducible refine Ev.seq ?_
   | with_reducible refine Ev.ops ?_
   | with_reducible refine NxE ?_
   | with_reducible refine BxN ?_
   | with_reducible refine BxX ?_
   | with_reducible refine NxX ?_
   | with_reducible refine NxR ?_
   | with_reducible refine BxR ?_
   | with_reducible refine NxG ?_
   | with_reducible refine BxG ?_
   | with_reducible refine GxR ?_
   | with_reducible refine GxN ?_
   | with_reducible refine GxX ?_
   | with_reducible refine Ev.goto ?_
   | with_reducible refine Ev.block ?_
   | with_reducible refine Ev.skip ?_
   | with_reducible refine Ev.exit ?_
   | with_reducible refine Ev.ret ?_
   | with_reducible refine Ev.label ?_
   | with_reducible refine EvOps.nil ?_
   | with_reducible refine EvPlan.nil ?_
   | (with_reducible refine BxO ?_ ?_; · decide)
   )
  all_goals first
    | (exfalso; omega)
    | (refine lsA (rl := [.tmp 2, .tmp 3]) rfl (hv := by
      simp only [leaveV, packV, strip, stripAgg, stripCell, hdrop, Nat.reduceLeDiff, List.map_cons, List.map_nil, show cx.grow 11 = true from rfl, show cx.keep 11 = true from rfl, show cx.frz 11 = false from rfl, if_false, if_true, Bool.false_eq_true]
      first | done | rfl | simp only [List.append_assoc] | omega))

set_option maxHeartbeats 4000000 in
theorem encTb (H : List (Nat × Ob)) (d sr tag ty : Int) (hd : 0 ≤ d) (hs : 0 ≤ sr) (hno : ¬ (d ≤ 281474976710655 ∧ sr ≤ 281474976710655 ∧ (0 ≤ tag ∧ tag ≤ 65535) ∧ (0 ≤ ty ∧ ty ≤ 65535) ∧ ty ≠ 33024)) :
    FnS cx 11 [.agg [.int .u64 d, .int .u64 sr, .bool true, .int .i64 tag, .int .i64 ty]] ⟨H, 2⟩ (.tup [.sl .full [], .int .i64 1]) ⟨(2, .cells [.int .u64 d, .int .u64 sr, .bool true, .int .i64 tag, .int .i64 ty]) :: H, 3⟩ := by
  refine goS Try.func11 rfl rfl rfl rfl ?_
  intro t ht
  have a0 : tget t 0 = .agg [.int .u64 d, .int .u64 sr, .bool true, .int .i64 tag, .int .i64 ty] := ht 0 _ rfl
  clear ht
  have ex := @a0
  repeat' (first
   | (with_reducible refine isO ?_); first
     | refine mvA (h := ?_)
     | refine asA (h := ?_)
     | refine quA (h := ?_)
     | refine caA (hc := wordS _ _) (h := ?_)
     | refine caA (hc := putN6 _ _ _ (by omega)) (h := ?_)
     | refine caA (hc := put2 _ _ _ _ _ (by simp [bytesL_length]) (by omega) _ (by omega)) (h := ?_)
     | refine caA (hc := put4 _ _ _ _ _ (by simp [bytesL_length]) (by omega) _ (by omega)) (h := ?_)
     | refine caA (hc := put6 _ _ _ _ _ (by simp [bytesL_length]) (by omega) _ (by omega)) (h := ?_)
   | (with_reducible refine isG ?_); first
     | refine stA (h := ?_)
     | refine srA (h := ?_)
     | refine swA (h := ?_)
     | refine s1A (h := ?_)
     | refine s0A (h := ?_)
     | refine sgA (h1 := fun _ => ?_) (h0 := fun _ => ?_)
     | refine sbA (h1 := fun _ => ?_) (h0 := fun _ => ?_)
   | (with_reducible refine isP ?_); first
     | refine dqA (h := ?_)
     | refine dcA (i := 2) (l := [4]) (hc := putN6 _ _ _ (by omega)) (h := ?_)
     | refine dcA (i := 2) (l := [4]) (hc := put2 _ _ _ _ _ (by simp [bytesL_length]) (by omega) _ (by omega)) (h := ?_)
     | refine dcA (i := 2) (l := [4]) (hc := put4 _ _ _ _ _ (by simp [bytesL_length]) (by omega) _ (by omega)) (h := ?_)
     | refine dcA (i := 2) (l := [4]) (hc := put6 _ _ _ _ _ (by simp [bytesL_length]) (by omega) _ (by omega)) (h := ?_)
     | refine dcA (i := 5) (l := []) (hc := putN6 _ _ _ (by omega)) (h := ?_)
     | refine dcA (i := 5) (l := []) (hc := put2 _ _ _ _ _ (by simp [bytesL_length]) (by omega) _ (by omega)) (h := ?_)
     | refine dcA (i := 5) (l := []) (hc := put4 _ _ _ _ _ (by simp [bytesL_length]) (by omega) _ (by omega)) (h := ?_)
     | refine dcA (i := 5) (l := []) (hc := put6 _ _ _ _ _ (by simp [bytesL_length]) (by omega) _ (by omega)) (h := ?_)
     | refine dcA (i := 1) (l := [4, 3]) (hc := putN6 _ _ _ (by omega)) (h := ?_)
     | refine dcA (i := 1) (l := [4, 3]) (hc := put2 _ _ _ _ _ (by simp [bytesL_length]) (by omega) _ (by omega)) (h := ?_)
     | refine dcA (i := 1) (l := [4, 3]) (hc := put4 _ _ _ _ _ (by simp [bytesL_length]) (by omega) _ (by omega)) (h := ?_)
     | refine dcA (i := 1) (l := [4, 3]) (hc := put6 _ _ _ _ _ (by simp [bytesL_length]) (by omega) _ (by omega)) (h := ?_)
     | refine dlA (i := 6) (l := []) (h := ?_)
   | (with_reducible refine isC ?_); first
     | refine ctA (h := ?_)
     | refine cfA (h := ?_)
     | refine cdA (h1 := fun _ => ?_) (h0 := fun _ => ?_)
     | refine cbA (h1 := fun _ => ?_) (h0 := fun _ => ?_)
   | (with_reducible refine isR ?_); first
     | refine Ev.drawn (by decide +kernel) (l := [0, 1, 3, 4, 2, 5, 6]) (by decide +kernel) ?_
     | refine Ev.drawn (by decide +kernel) (l := [0, 2, 3, 4, 1, 5, 6]) (by decide +kernel) ?_
   | with_reducible refine Ev.seq ?_
   | with_reducible refine Ev.ops ?_
   | with_reducible refine NxE ?_
   | with_reducible refine BxN ?_
   | with_reducible refine BxX ?_
   | with_reducible refine NxX ?_
   | with_reducible refine NxR ?_
   | with_reducible refine BxR ?_
   | with_reducible refine NxG ?_
   | with_reducible refine BxG ?_
   | with_reducible refine GxR ?_
   | with_reducible refine GxN ?_
   | with_reducible refine GxX ?_
   | with_reducible refine Ev.goto ?_
   | with_reducible refine Ev.block ?_
   | with_reducible refine Ev.skip ?_
   | with_reducible refine Ev.exit ?_
   | with_reducible refine Ev.ret ?_
   | with_reducible refine Ev.label ?_
   | with_reducible refine EvOps.nil ?_
   | with_reducible refine EvPlan.nil ?_
   | (with_reducible refine BxO ?_ ?_; · decide)
   )
  all_goals first
    | (exfalso; omega)
    | (refine lsA (rl := [.tmp 2, .tmp 3]) rfl (hv := by
      simp only [leaveV, packV, strip, stripAgg, stripCell, hdrop, Nat.reduceLeDiff, List.map_cons, List.map_nil, show cx.grow 11 = true from rfl, show cx.keep 11 = true from rfl, show cx.frz 11 = false from rfl, if_false, if_true, Bool.false_eq_true]
      first | done | rfl | simp only [List.append_assoc] | omega))

set_option maxHeartbeats 4000000 in
theorem arp3 (H : List (Nat × Ob)) (op sha spa tha tpa : Int) (h1 : 0 ≤ sha) (h2 : sha < 18446744073709551616) (h3 : 0 ≤ spa) (h4 : spa < 4294967296) (h5 : 0 ≤ tha) (h6 : tha < 18446744073709551616) (h7 : 0 ≤ tpa) (h8 : tpa < 4294967296) (k1 : sha ≤ 281474976710655) (k2 : tha ≤ 281474976710655) (k3 : 0 ≤ op) (k4 : op ≤ 65535) :
    FnS cx 15 [.agg [.int .i64 op, .int .u64 sha, .int .u32 spa, .int .u64 tha, .int .u32 tpa]] ⟨H, 3⟩ (.tup [.msl 25 0 28 (ownC 1), .int .i64 0]) ⟨(25, .cells (ofBytes (encA op sha spa tha tpa))) :: (3, .cells [.int .i64 op, .int .u64 sha, .int .u32 spa, .int .u64 tha, .int .u32 tpa]) :: H, 26⟩ := by
  refine goS Try.func15 rfl rfl rfl rfl ?_
  intro t ht
  have a0 : tget t 0 = .agg [.int .i64 op, .int .u64 sha, .int .u32 spa, .int .u64 tha, .int .u32 tpa] := ht 0 _ rfl
  clear ht
  have ex := And.intro @a0 @bs6
  repeat' (first
   | (with_reducible refine isO ?_); first
     | refine mvA (h := ?_)
     | refine asA (h := ?_)
     | refine quA (h := ?_)
     | refine caA (hc := wordT _ (by omega) (by omega) _) (h := ?_)
     | refine caA (hc := putA2 _ _ _ (by omega)) (h := ?_)
     | refine caA (hc := put2 _ _ _ _ _ (by simp [bytesL_length]) (by omega) _ (by omega)) (h := ?_)
     | refine caA (hc := put4 _ _ _ _ _ (by simp [bytesL_length]) (by omega) _ (by omega)) (h := ?_)
     | refine caA (hc := put6 _ _ _ _ _ (by simp [bytesL_length]) (by omega) _ (by omega)) (h := ?_)
   | (with_reducible refine isG ?_); first
     | refine stA (h := ?_)
     | refine srA (h := ?_)
     | refine swA (h := ?_)
     | refine s1A (h := ?_)
     | refine s0A (h := ?_)
     | refine sgA (h1 := fun _ => ?_) (h0 := fun _ => ?_)
     | refine sbA (h1 := fun _ => ?_) (h0 := fun _ => ?_)
   | (with_reducible refine isP ?_); first
     | refine dqA (h := ?_)
     | refine dcA (i := 3) (l := [6, 5]) (hc := putA2 _ _ _ (by omega)) (h := ?_)
     | refine dcA (i := 3) (l := [6, 5]) (hc := put2 _ _ _ _ _ (by simp [bytesL_length]) (by omega) _ (by omega)) (h := ?_)
     | refine dcA (i := 3) (l := [6, 5]) (hc := put4 _ _ _ _ _ (by simp [bytesL_length]) (by omega) _ (by omega)) (h := ?_)
     | refine dcA (i := 3) (l := [6, 5]) (hc := put6 _ _ _ _ _ (by simp [bytesL_length]) (by omega) _ (by omega)) (h := ?_)
     | refine dcA (i := 7) (l := []) (hc := putA2 _ _ _ (by omega)) (h := ?_)
     | refine dcA (i := 7) (l := []) (hc := put2 _ _ _ _ _ (by simp [bytesL_length]) (by omega) _ (by omega)) (h := ?_)
     | refine dcA (i := 7) (l := []) (hc := put4 _ _ _ _ _ (by simp [bytesL_length]) (by omega) _ (by omega)) (h := ?_)
     | refine dcA (i := 7) (l := []) (hc := put6 _ _ _ _ _ (by simp [bytesL_length]) (by omega) _ (by omega)) (h := ?_)
     | refine dlA (i := 8) (l := []) (h := ?_)
   | (with_reducible refine isC ?_); first
     | refine ctA (h := ?_)
     | refine cfA (h := ?_)
     | refine cdA (h1 := fun _ => ?_) (h0 := fun _ => ?_)
     | refine cbA (h1 := fun _ => ?_) (h0 := fun _ => ?_)
   | (with_reducible refine isR ?_); first
     | refine Ev.drawn (by decide +kernel) (l := [0, 1, 2, 4, 5, 6, 3, 7, 8]) (by decide +kernel) ?_
     | refine Ev.drawn (by decide +kernel) (l := [0, 1, 2, 4, 5, 6, 3, 7, 8, 9]) (by decide +kernel) ?_
   | refine opsP bT22 (by simp (disch := (first | assumption | omega | (simp only [List.length_append, bytesL_length, ofBytes_length, List.length_take, List.length_drop, List.length_cons, List.length_nil]; omega))) only [↓opE, ↓evP, stE, binE, ldE, ↓tgP, ↓reduceIte, clE, ncE, szE, hgE, intBin, shiftBin, strBin, unV, indexAddrV, indexV, lenV, partV, isAggT, sliceV, boundsV, bndV, asIntV, fieldAddrV, fieldV, putAt, nilCheckV, makeIfaceV, stripAgg, stripCell, decide_eq_true_eq, beqD, bneD, notD, beqS, if_true, if_false, ite_true, ite_false, Bool.true_eq_false, Bool.false_eq_true, Nat.reduceEqDiff, Nat.reduceBEq, Nat.reduceAdd, Nat.reduceSub, Nat.reduceMul, Nat.min_def, Nat.reducePow, Nat.reduceLeDiff, Nat.reduceLT, Int.reduceEq, Int.reduceNe, Int.reduceLT, Int.reduceLE, Int.reduceToNat, Int.reduceAdd, Int.reduceSub, Int.reduceMul, Int.reducePow, Int.reduceNeg, Option.map_some, Option.map_none, Option.bind_some, Option.getD_some, Option.getD_none, ofBytes_length, ofBytes_get, ofBytes_take, ofBytes_drop, Int.toNat_natCast, Int.natCast_nonneg, and_self, true_and, and_true, List.getElem?_cons_zero, List.getElem?_cons_succ, decide_true, decide_false, Bool.not_true, Bool.not_false, List.getElem_toArray, List.getElem?_toArray, List.getElem_cons_succ, List.getElem_cons_zero, List.toList_toArray, List.map_cons, List.map_nil, List.take_succ_cons, List.take_zero, List.drop_succ_cons, List.drop_zero, List.length_cons, List.length_nil, List.nil_append, List.cons_append, List.append_nil, Nat.le_refl, Nat.zero_add, Nat.mul_one, Nat.add_zero, Nat.zero_lt_one, List.length_singleton, IntKind.bits, reduceCtorEq, not_true_eq_false, not_false_eq_true, ne_eq, if_pos, if_neg, wI64, wI32, wU8, wU16, wU32, wU64, Int.emod_eq_of_lt, Int.fdiv_eq_ediv_of_nonneg, Int.tdiv_eq_ediv_of_nonneg, Int.tmod_eq_emod_of_nonneg, tyE, Try.underlying25, Try.underlying36, cvE, bdE, ex]; with_reducible rfl) ?_
   | with_reducible refine Ev.seq ?_
   | with_reducible refine Ev.ops ?_
   | with_reducible refine NxE ?_
   | with_reducible refine BxN ?_
   | with_reducible refine BxX ?_
   | with_reducible refine NxX ?_
   | with_reducible refine NxR ?_
   | with_reducible refine BxR ?_
   | with_reducible refine NxG ?_
   | with_reducible refine BxG ?_
   | with_reducible refine GxR ?_
   | with_reducible refine GxN ?_
   | with_reducible refine GxX ?_
   | with_reducible refine Ev.goto ?_
   | with_reducible refine Ev.block ?_
   | with_reducible refine Ev.skip ?_
   | with_reducible refine Ev.exit ?_
   | with_reducible refine Ev.ret ?_
   | with_reducible refine Ev.label ?_
   | with_reducible refine EvOps.nil ?_
   | with_reducible refine EvPlan.nil ?_
   | (with_reducible refine BxO ?_ ?_; · decide)
   )
  all_goals first
    | (exfalso; omega)
    | (refine lsA (rl := [.tmp 2, .tmp 3]) rfl (hv := by
      simp only [leaveV, packV, strip, stripAgg, stripCell, hdrop, Nat.reduceLeDiff, List.map_cons, List.map_nil, show cx.grow 15 = true from rfl, show cx.keep 15 = true from rfl, show cx.frz 15 = false from rfl, if_false, if_true, Bool.false_eq_true]
      first | done | rfl | simp only [List.append_assoc] | omega))

set_option maxHeartbeats 4000000 in
theorem arp3b (H : List (Nat × Ob)) (op sha spa tha tpa : Int) (h1 : 0 ≤ sha) (h2 : sha < 18446744073709551616) (h3 : 0 ≤ spa) (h4 : spa < 4294967296) (h5 : 0 ≤ tha) (h6 : tha < 18446744073709551616) (h7 : 0 ≤ tpa) (h8 : tpa < 4294967296) (hno : ¬ (sha ≤ 281474976710655 ∧ tha ≤ 281474976710655 ∧ 0 ≤ op ∧ op ≤ 65535)) :
    FnS cx 15 [.agg [.int .i64 op, .int .u64 sha, .int .u32 spa, .int .u64 tha, .int .u32 tpa]] ⟨H, 3⟩ (.tup [.sl .full [], .int .i64 1]) ⟨(3, .cells [.int .i64 op, .int .u64 sha, .int .u32 spa, .int .u64 tha, .int .u32 tpa]) :: H, 4⟩ := by
  refine goS Try.func15 rfl rfl rfl rfl ?_
  intro t ht
  have a0 : tget t 0 = .agg [.int .i64 op, .int .u64 sha, .int .u32 spa, .int .u64 tha, .int .u32 tpa] := ht 0 _ rfl
  clear ht
  have ex := And.intro @a0 @bs6
  repeat' (first
   | (with_reducible refine isO ?_); first
     | refine mvA (h := ?_)
     | refine asA (h := ?_)
     | refine quA (h := ?_)
     | refine caA (hc := wordS _ _) (h := ?_)
     | refine caA (hc := putA2 _ _ _ (by omega)) (h := ?_)
     | refine caA (hc := put2 _ _ _ _ _ (by simp [bytesL_length]) (by omega) _ (by omega)) (h := ?_)
     | refine caA (hc := put4 _ _ _ _ _ (by simp [bytesL_length]) (by omega) _ (by omega)) (h := ?_)
     | refine caA (hc := put6 _ _ _ _ _ (by simp [bytesL_length]) (by omega) _ (by omega)) (h := ?_)
   | (with_reducible refine isG ?_); first
     | refine stA (h := ?_)
     | refine srA (h := ?_)
     | refine swA (h := ?_)
     | refine s1A (h := ?_)
     | refine s0A (h := ?_)
     | refine sgA (h1 := fun _ => ?_) (h0 := fun _ => ?_)
     | refine sbA (h1 := fun _ => ?_) (h0 := fun _ => ?_)
   | (with_reducible refine isP ?_); first
     | refine dqA (h := ?_)
     | refine dcA (i := 3) (l := [6, 5]) (hc := putA2 _ _ _ (by omega)) (h := ?_)
     | refine dcA (i := 3) (l := [6, 5]) (hc := put2 _ _ _ _ _ (by simp [bytesL_length]) (by omega) _ (by omega)) (h := ?_)
     | refine dcA (i := 3) (l := [6, 5]) (hc := put4 _ _ _ _ _ (by simp [bytesL_length]) (by omega) _ (by omega)) (h := ?_)
     | refine dcA (i := 3) (l := [6, 5]) (hc := put6 _ _ _ _ _ (by simp [bytesL_length]) (by omega) _ (by omega)) (h := ?_)
     | refine dcA (i := 7) (l := []) (hc := putA2 _ _ _ (by omega)) (h := ?_)
     | refine dcA (i := 7) (l := []) (hc := put2 _ _ _ _ _ (by simp [bytesL_length]) (by omega) _ (by omega)) (h := ?_)
     | refine dcA (i := 7) (l := []) (hc := put4 _ _ _ _ _ (by simp [bytesL_length]) (by omega) _ (by omega)) (h := ?_)
     | refine dcA (i := 7) (l := []) (hc := put6 _ _ _ _ _ (by simp [bytesL_length]) (by omega) _ (by omega)) (h := ?_)
     | refine dlA (i := 8) (l := []) (h := ?_)
   | (with_reducible refine isC ?_); first
     | refine ctA (h := ?_)
     | refine cfA (h := ?_)
     | refine cdA (h1 := fun _ => ?_) (h0 := fun _ => ?_)
     | refine cbA (h1 := fun _ => ?_) (h0 := fun _ => ?_)
   | (with_reducible refine isR ?_); first
     | refine Ev.drawn (by decide +kernel) (l := [0, 1, 2, 4, 5, 6, 3, 7, 8]) (by decide +kernel) ?_
     | refine Ev.drawn (by decide +kernel) (l := [0, 1, 2, 4, 5, 6, 3, 7, 8, 9]) (by decide +kernel) ?_
   | refine opsP bT22 (by simp (disch := (first | assumption | omega | (simp only [List.length_append, bytesL_length, ofBytes_length, List.length_take, List.length_drop, List.length_cons, List.length_nil]; omega))) only [↓opE, ↓evP, stE, binE, ldE, ↓tgP, ↓reduceIte, clE, ncE, szE, hgE, intBin, shiftBin, strBin, unV, indexAddrV, indexV, lenV, partV, isAggT, sliceV, boundsV, bndV, asIntV, fieldAddrV, fieldV, putAt, nilCheckV, makeIfaceV, stripAgg, stripCell, decide_eq_true_eq, beqD, bneD, notD, beqS, if_true, if_false, ite_true, ite_false, Bool.true_eq_false, Bool.false_eq_true, Nat.reduceEqDiff, Nat.reduceBEq, Nat.reduceAdd, Nat.reduceSub, Nat.reduceMul, Nat.min_def, Nat.reducePow, Nat.reduceLeDiff, Nat.reduceLT, Int.reduceEq, Int.reduceNe, Int.reduceLT, Int.reduceLE, Int.reduceToNat, Int.reduceAdd, Int.reduceSub, Int.reduceMul, Int.reducePow, Int.reduceNeg, Option.map_some, Option.map_none, Option.bind_some, Option.getD_some, Option.getD_none, ofBytes_length, ofBytes_get, ofBytes_take, ofBytes_drop, Int.toNat_natCast, Int.natCast_nonneg, and_self, true_and, and_true, List.getElem?_cons_zero, List.getElem?_cons_succ, decide_true, decide_false, Bool.not_true, Bool.not_false, List.getElem_toArray, List.getElem?_toArray, List.getElem_cons_succ, List.getElem_cons_zero, List.toList_toArray, List.map_cons, List.map_nil, List.take_succ_cons, List.take_zero, List.drop_succ_cons, List.drop_zero, List.length_cons, List.length_nil, List.nil_append, List.cons_append, List.append_nil, Nat.le_refl, Nat.zero_add, Nat.mul_one, Nat.add_zero, Nat.zero_lt_one, List.length_singleton, IntKind.bits, reduceCtorEq, not_true_eq_false, not_false_eq_true, ne_eq, if_pos, if_neg, wI64, wI32, wU8, wU16, wU32, wU64, Int.emod_eq_of_lt, Int.fdiv_eq_ediv_of_nonneg, Int.tdiv_eq_ediv_of_nonneg, Int.tmod_eq_emod_of_nonneg, tyE, Try.underlying25, Try.underlying36, cvE, bdE, ex]; with_reducible rfl) ?_
   | with_reducible refine Ev.seq ?_
   | with_reducible refine Ev.ops ?_
   | with_reducible refine NxE ?_
   | with_reducible refine BxN ?_
   | with_reducible refine BxX ?_
   | with_reducible refine NxX ?_
   | with_reducible refine NxR ?_
   | with_reducible refine BxR ?_
   | with_reducible refine NxG ?_
   | with_reducible refine BxG ?_
   | with_reducible refine GxR ?_
   | with_reducible refine GxN ?_
   | with_reducible refine GxX ?_
   | with_reducible refine Ev.goto ?_
   | with_reducible refine Ev.block ?_
   | with_reducible refine Ev.skip ?_
   | with_reducible refine Ev.exit ?_
   | with_reducible refine Ev.ret ?_
   | with_reducible refine Ev.label ?_
   | with_reducible refine EvOps.nil ?_
   | with_reducible refine EvPlan.nil ?_
   | (with_reducible refine BxO ?_ ?_; · decide)
   )
  all_goals first
    | (exfalso; omega)
    | (refine lsA (rl := [.tmp 2, .tmp 3]) rfl (hv := by
      simp only [leaveV, packV, strip, stripAgg, stripCell, hdrop, Nat.reduceLeDiff, List.map_cons, List.map_nil, show cx.grow 15 = true from rfl, show cx.keep 15 = true from rfl, show cx.frz 15 = false from rfl, if_false, if_true, Bool.false_eq_true]
      first | done | rfl | simp only [List.append_assoc] | omega))

set_option maxHeartbeats 4000000 in
theorem arp17 (H : List (Nat × Ob)) (op sha spa tha tpa : Int) (h1 : 0 ≤ sha) (h2 : sha < 18446744073709551616) (h3 : 0 ≤ spa) (h4 : spa < 4294967296) (h5 : 0 ≤ tha) (h6 : tha < 18446744073709551616) (h7 : 0 ≤ tpa) (h8 : tpa < 4294967296) (k1 : sha ≤ 281474976710655) (k2 : tha ≤ 281474976710655) (k3 : 0 ≤ op) (k4 : op ≤ 65535) :
    FnS cx 15 [.agg [.int .i64 op, .int .u64 sha, .int .u32 spa, .int .u64 tha, .int .u32 tpa]] ⟨H, 17⟩ (.tup [.msl 39 0 28 (ownC 1), .int .i64 0]) ⟨(39, .cells (ofBytes (encA op sha spa tha tpa))) :: (17, .cells [.int .i64 op, .int .u64 sha, .int .u32 spa, .int .u64 tha, .int .u32 tpa]) :: H, 40⟩ := by
  refine goS Try.func15 rfl rfl rfl rfl ?_
  intro t ht
  have a0 : tget t 0 = .agg [.int .i64 op, .int .u64 sha, .int .u32 spa, .int .u64 tha, .int .u32 tpa] := ht 0 _ rfl
  clear ht
  have ex := And.intro @a0 @bs6
  repeat' (first
   | (with_reducible refine isO ?_); first
     | refine mvA (h := ?_)
     | refine asA (h := ?_)
     | refine quA (h := ?_)
     | refine caA (hc := wordT _ (by omega) (by omega) _) (h := ?_)
     | refine caA (hc := putA2 _ _ _ (by omega)) (h := ?_)
     | refine caA (hc := put2 _ _ _ _ _ (by simp [bytesL_length]) (by omega) _ (by omega)) (h := ?_)
     | refine caA (hc := put4 _ _ _ _ _ (by simp [bytesL_length]) (by omega) _ (by omega)) (h := ?_)
     | refine caA (hc := put6 _ _ _ _ _ (by simp [bytesL_length]) (by omega) _ (by omega)) (h := ?_)
   | (with_reducible refine isG ?_); first
     | refine stA (h := ?_)
     | refine srA (h := ?_)
     | refine swA (h := ?_)
     | refine s1A (h := ?_)
     | refine s0A (h := ?_)
     | refine sgA (h1 := fun _ => ?_) (h0 := fun _ => ?_)
     | refine sbA (h1 := fun _ => ?_) (h0 := fun _ => ?_)
   | (with_reducible refine isP ?_); first
     | refine dqA (h := ?_)
     | refine dcA (i := 3) (l := [6, 5]) (hc := putA2 _ _ _ (by omega)) (h := ?_)
     | refine dcA (i := 3) (l := [6, 5]) (hc := put2 _ _ _ _ _ (by simp [bytesL_length]) (by omega) _ (by omega)) (h := ?_)
     | refine dcA (i := 3) (l := [6, 5]) (hc := put4 _ _ _ _ _ (by simp [bytesL_length]) (by omega) _ (by omega)) (h := ?_)
     | refine dcA (i := 3) (l := [6, 5]) (hc := put6 _ _ _ _ _ (by simp [bytesL_length]) (by omega) _ (by omega)) (h := ?_)
     | refine dcA (i := 7) (l := []) (hc := putA2 _ _ _ (by omega)) (h := ?_)
     | refine dcA (i := 7) (l := []) (hc := put2 _ _ _ _ _ (by simp [bytesL_length]) (by omega) _ (by omega)) (h := ?_)
     | refine dcA (i := 7) (l := []) (hc := put4 _ _ _ _ _ (by simp [bytesL_length]) (by omega) _ (by omega)) (h := ?_)
     | refine dcA (i := 7) (l := []) (hc := put6 _ _ _ _ _ (by simp [bytesL_length]) (by omega) _ (by omega)) (h := ?_)
     | refine dlA (i := 8) (l := []) (h := ?_)
   | (with_reducible refine isC ?_); first
     | refine ctA (h := ?_)
     | refine cfA (h := ?_)
     | refine cdA (h1 := fun _ => ?_) (h0 := fun _ => ?_)
     | refine cbA (h1 := fun _ => ?_) (h0 := fun _ => ?_)
   | (with_reducible refine isR ?_); first
     | refine Ev.drawn (by decide +kernel) (l := [0, 1, 2, 4, 5, 6, 3, 7, 8]) (by decide +kernel) ?_
     | refine Ev.drawn (by decide +kernel) (l := [0, 1, 2, 4, 5, 6, 3, 7, 8, 9]) (by decide +kernel) ?_
   | refine opsP bT22 (by simp (disch := (first | assumption | omega | (simp only [List.length_append, bytesL_length, ofBytes_length, List.length_take, List.length_drop, List.length_cons, List.length_nil]; omega))) only [↓opE, ↓evP, stE, binE, ldE, ↓tgP, ↓reduceIte, clE, ncE, szE, hgE, intBin, shiftBin, strBin, unV, indexAddrV, indexV, lenV, partV, isAggT, sliceV, boundsV, bndV, asIntV, fieldAddrV, fieldV, putAt, nilCheckV, makeIfaceV, stripAgg, stripCell, decide_eq_true_eq, beqD, bneD, notD, beqS, if_true, if_false, ite_true, ite_false, Bool.true_eq_false, Bool.false_eq_true, Nat.reduceEqDiff, Nat.reduceBEq, Nat.reduceAdd, Nat.reduceSub, Nat.reduceMul, Nat.min_def, Nat.reducePow, Nat.reduceLeDiff, Nat.reduceLT, Int.reduceEq, Int.reduceNe, Int.reduceLT, Int.reduceLE, Int.reduceToNat, Int.reduceAdd, Int.reduceSub, Int.reduceMul, Int.reducePow, Int.reduceNeg, Option.map_some, Option.map_none, Option.bind_some, Option.getD_some, Option.getD_none, ofBytes_length, ofBytes_get, ofBytes_take, ofBytes_drop, Int.toNat_natCast, Int.natCast_nonneg, and_self, true_and, and_true, List.getElem?_cons_zero, List.getElem?_cons_succ, decide_true, decide_false, Bool.not_true, Bool.not_false, List.getElem_toArray, List.getElem?_toArray, List.getElem_cons_succ, List.getElem_cons_zero, List.toList_toArray, List.map_cons, List.map_nil, List.take_succ_cons, List.take_zero, List.drop_succ_cons, List.drop_zero, List.length_cons, List.length_nil, List.nil_append, List.cons_append, List.append_nil, Nat.le_refl, Nat.zero_add, Nat.mul_one, Nat.add_zero, Nat.zero_lt_one, List.length_singleton, IntKind.bits, reduceCtorEq, not_true_eq_false, not_false_eq_true, ne_eq, if_pos, if_neg, wI64, wI32, wU8, wU16, wU32, wU64, Int.emod_eq_of_lt, Int.fdiv_eq_ediv_of_nonneg, Int.tdiv_eq_ediv_of_nonneg, Int.tmod_eq_emod_of_nonneg, tyE, Try.underlying25, Try.underlying36, cvE, bdE, ex]; with_reducible rfl) ?_
   | with_reducible refine Ev.seq ?_
   | with_reducible refine Ev.ops ?_
   | with_reducible refine NxE ?_
   | with_reducible refine BxN ?_
   | with_reducible refine BxX ?_
   | with_reducible refine NxX ?_
   | with_reducible refine NxR ?_
   | with_reducible refine BxR ?_
   | with_reducible refine NxG ?_
   | with_reducible refine BxG ?_
   | with_reducible refine GxR ?_
   | with_reducible refine GxN ?_
   | with_reducible refine GxX ?_
   | with_reducible refine Ev.goto ?_
   | with_reducible refine Ev.block ?_
   | with_reducible refine Ev.skip ?_
   | with_reducible refine Ev.exit ?_
   | with_reducible refine Ev.ret ?_
   | with_reducible refine Ev.label ?_
   | with_reducible refine EvOps.nil ?_
   | with_reducible refine EvPlan.nil ?_
   | (with_reducible refine BxO ?_ ?_; · decide)
   )
  all_goals first
    | (exfalso; omega)
    | (refine lsA (rl := [.tmp 2, .tmp 3]) rfl (hv := by
      simp only [leaveV, packV, strip, stripAgg, stripCell, hdrop, Nat.reduceLeDiff, List.map_cons, List.map_nil, show cx.grow 15 = true from rfl, show cx.keep 15 = true from rfl, show cx.frz 15 = false from rfl, if_false, if_true, Bool.false_eq_true]
      first | done | rfl | simp only [List.append_assoc] | omega))

set_option maxHeartbeats 4000000 in
theorem arp17b (H : List (Nat × Ob)) (op sha spa tha tpa : Int) (h1 : 0 ≤ sha) (h2 : sha < 18446744073709551616) (h3 : 0 ≤ spa) (h4 : spa < 4294967296) (h5 : 0 ≤ tha) (h6 : tha < 18446744073709551616) (h7 : 0 ≤ tpa) (h8 : tpa < 4294967296) (hno : ¬ (sha ≤ 281474976710655 ∧ tha ≤ 281474976710655 ∧ 0 ≤ op ∧ op ≤ 65535)) :
    FnS cx 15 [.agg [.int .i64 op, .int .u64 sha, .int .u32 spa, .int .u64 tha, .int .u32 tpa]] ⟨H, 17⟩ (.tup [.sl .full [], .int .i64 1]) ⟨(17, .cells [.int .i64 op, .int .u64 sha, .int .u32 spa, .int .u64 tha, .int .u32 tpa]) :: H, 18⟩ := by
  refine goS Try.func15 rfl rfl rfl rfl ?_
  intro t ht
  have a0 : tget t 0 = .agg [.int .i64 op, .int .u64 sha, .int .u32 spa, .int .u64 tha, .int .u32 tpa] := ht 0 _ rfl
  clear ht
  have ex := And.intro @a0 @bs6
  repeat' (first
   | (with_reducible refine isO ?_); first
     | refine mvA (h := ?_)
     | refine asA (h := ?_)
     | refine quA (h := ?_)
     | refine caA (hc := wordS _ _) (h := ?_)
     | refine caA (hc := putA2 _ _ _ (by omega)) (h := ?_)
     | refine caA (hc := put2 _ _ _ _ _ (by simp [bytesL_length]) (by omega) _ (by omega)) (h := ?_)
     | refine caA (hc := put4 _ _ _ _ _ (by simp [bytesL_length]) (by omega) _ (by omega)) (h := ?_)
     | refine caA (hc := put6 _ _ _ _ _ (by simp [bytesL_length]) (by omega) _ (by omega)) (h := ?_)
   | (with_reducible refine isG ?_); first
     | refine stA (h := ?_)
     | refine srA (h := ?_)
     | refine swA (h := ?_)
     | refine s1A (h := ?_)
     | refine s0A (h := ?_)
     | refine sgA (h1 := fun _ => ?_) (h0 := fun _ => ?_)
     | refine sbA (h1 := fun _ => ?_) (h0 := fun _ => ?_)
   | (with_reducible refine isP ?_); first
     | refine dqA (h := ?_)
     | refine dcA (i := 3) (l := [6, 5]) (hc := putA2 _ _ _ (by omega)) (h := ?_)
     | refine dcA (i := 3) (l := [6, 5]) (hc := put2 _ _ _ _ _ (by simp [bytesL_length]) (by omega) _ (by omega)) (h := ?_)
     | refine dcA (i := 3) (l := [6, 5]) (hc := put4 _ _ _ _ _ (by simp [bytesL_length]) (by omega) _ (by omega)) (h := ?_)
     | refine dcA (i := 3) (l := [6, 5]) (hc := put6 _ _ _ _ _ (by simp [bytesL_length]) (by omega) _ (by omega)) (h := ?_)
     | refine dcA (i := 7) (l := []) (hc := putA2 _ _ _ (by omega)) (h := ?_)
     | refine dcA (i := 7) (l := []) (hc := put2 _ _ _ _ _ (by simp [bytesL_length]) (by omega) _ (by omega)) (h := ?_)
     | refine dcA (i := 7) (l := []) (hc := put4 _ _ _ _ _ (by simp [bytesL_length]) (by omega) _ (by omega)) (h := ?_)
     | refine dcA (i := 7) (l := []) (hc := put6 _ _ _ _ _ (by simp [bytesL_length]) (by omega) _ (by omega)) (h := ?_)
     | refine dlA (i := 8) (l := []) (h := ?_)
   | (with_reducible refine isC ?_); first
     | refine ctA (h := ?_)
     | refine cfA (h := ?_)
     | refine cdA (h1 := fun _ => ?_) (h0 := fun _ => ?_)
     | refine cbA (h1 := fun _ => ?_) (h0 := fun _ => ?_)
   | (with_reducible refine isR ?_); first
     | refine Ev.drawn (by decide +kernel) (l := [0, 1, 2, 4, 5, 6, 3, 7, 8]) (by decide +kernel) ?_
     | refine Ev.drawn (by decide +kernel) (l := [0, 1, 2, 4, 5, 6, 3, 7, 8, 9]) (by decide +kernel) ?_
   | refine opsP bT22 (by simp (disch := (first | assumption | omega | (simp only [List.length_append, bytesL_length, ofBytes_length, List.length_take, List.length_drop, List.length_cons, List.length_nil]; omega))) only [↓opE, ↓evP, stE, binE, ldE, ↓tgP, ↓reduceIte, clE, ncE, szE, hgE, intBin, shiftBin, strBin, unV, indexAddrV, indexV, lenV, partV, isAggT, sliceV, boundsV, bndV, asIntV, fieldAddrV, fieldV, putAt, nilCheckV, makeIfaceV, stripAgg, stripCell, decide_eq_true_eq, beqD, bneD, notD, beqS, if_true, if_false, ite_true, ite_false, Bool.true_eq_false, Bool.false_eq_true, Nat.reduceEqDiff, Nat.reduceBEq, Nat.reduceAdd, Nat.reduceSub, Nat.reduceMul, Nat.min_def, Nat.reducePow, Nat.reduceLeDiff, Nat.reduceLT, Int.reduceEq, Int.reduceNe, Int.reduceLT, Int.reduceLE, Int.reduceToNat, Int.reduceAdd, Int.reduceSub, Int.reduceMul, Int.reducePow, Int.reduceNeg, Option.map_some, Option.map_none, Option.bind_some, Option.getD_some, Option.getD_none, ofBytes_length, ofBytes_get, ofBytes_take, ofBytes_drop, Int.toNat_natCast, Int.natCast_nonneg, and_self, true_and, and_true, List.getElem?_cons_zero, List.getElem?_cons_succ, decide_true, decide_false, Bool.not_true, Bool.not_false, List.getElem_toArray, List.getElem?_toArray, List.getElem_cons_succ, List.getElem_cons_zero, List.toList_toArray, List.map_cons, List.map_nil, List.take_succ_cons, List.take_zero, List.drop_succ_cons, List.drop_zero, List.length_cons, List.length_nil, List.nil_append, List.cons_append, List.append_nil, Nat.le_refl, Nat.zero_add, Nat.mul_one, Nat.add_zero, Nat.zero_lt_one, List.length_singleton, IntKind.bits, reduceCtorEq, not_true_eq_false, not_false_eq_true, ne_eq, if_pos, if_neg, wI64, wI32, wU8, wU16, wU32, wU64, Int.emod_eq_of_lt, Int.fdiv_eq_ediv_of_nonneg, Int.tdiv_eq_ediv_of_nonneg, Int.tmod_eq_emod_of_nonneg, tyE, Try.underlying25, Try.underlying36, cvE, bdE, ex]; with_reducible rfl) ?_
   | with_reducible refine Ev.seq ?_
   | with_reducible refine Ev.ops ?_
   | with_reducible refine NxE ?_
   | with_reducible refine BxN ?_
   | with_reducible refine BxX ?_
   | with_reducible refine NxX ?_
   | with_reducible refine NxR ?_
   | with_reducible refine BxR ?_
   | with_reducible refine NxG ?_
   | with_reducible refine BxG ?_
   | with_reducible refine GxR ?_
   | with_reducible refine GxN ?_
   | with_reducible refine GxX ?_
   | with_reducible refine Ev.goto ?_
   | with_reducible refine Ev.block ?_
   | with_reducible refine Ev.skip ?_
   | with_reducible refine Ev.exit ?_
   | with_reducible refine Ev.ret ?_
   | with_reducible refine Ev.label ?_
   | with_reducible refine EvOps.nil ?_
   | with_reducible refine EvPlan.nil ?_
   | (with_reducible refine BxO ?_ ?_; · decide)
   )
  all_goals first
    | (exfalso; omega)
    | (refine lsA (rl := [.tmp 2, .tmp 3]) rfl (hv := by
      simp only [leaveV, packV, strip, stripAgg, stripCell, hdrop, Nat.reduceLeDiff, List.map_cons, List.map_nil, show cx.grow 15 = true from rfl, show cx.keep 15 = true from rfl, show cx.frz 15 = false from rfl, if_false, if_true, Bool.false_eq_true]
      first | done | rfl | simp only [List.append_assoc] | omega))

set_option maxHeartbeats 4000000 in
theorem arp21 (H : List (Nat × Ob)) (op sha spa tha tpa : Int) (h1 : 0 ≤ sha) (h2 : sha < 18446744073709551616) (h3 : 0 ≤ spa) (h4 : spa < 4294967296) (h5 : 0 ≤ tha) (h6 : tha < 18446744073709551616) (h7 : 0 ≤ tpa) (h8 : tpa < 4294967296) (k1 : sha ≤ 281474976710655) (k2 : tha ≤ 281474976710655) (k3 : 0 ≤ op) (k4 : op ≤ 65535) :
    FnS cx 15 [.agg [.int .i64 op, .int .u64 sha, .int .u32 spa, .int .u64 tha, .int .u32 tpa]] ⟨H, 21⟩ (.tup [.msl 43 0 28 (ownC 1), .int .i64 0]) ⟨(43, .cells (ofBytes (encA op sha spa tha tpa))) :: (21, .cells [.int .i64 op, .int .u64 sha, .int .u32 spa, .int .u64 tha, .int .u32 tpa]) :: H, 44⟩ := by
  refine goS Try.func15 rfl rfl rfl rfl ?_
  intro t ht
  have a0 : tget t 0 = .agg [.int .i64 op, .int .u64 sha, .int .u32 spa, .int .u64 tha, .int .u32 tpa] := ht 0 _ rfl
  clear ht
  have ex := And.intro @a0 @bs6
  repeat' (first
   | (with_reducible refine isO ?_); first
     | refine mvA (h := ?_)
     | refine asA (h := ?_)
     | refine quA (h := ?_)
     | refine caA (hc := wordT _ (by omega) (by omega) _) (h := ?_)
     | refine caA (hc := putA2 _ _ _ (by omega)) (h := ?_)
     | refine caA (hc := put2 _ _ _ _ _ (by simp [bytesL_length]) (by omega) _ (by omega)) (h := ?_)
     | refine caA (hc := put4 _ _ _ _ _ (by simp [bytesL_length]) (by omega) _ (by omega)) (h := ?_)
     | refine caA (hc := put6 _ _ _ _ _ (by simp [bytesL_length]) (by omega) _ (by omega)) (h := ?_)
   | (with_reducible refine isG ?_); first
     | refine stA (h := ?_)
     | refine srA (h := ?_)
     | refine swA (h := ?_)
     | refine s1A (h := ?_)
     | refine s0A (h := ?_)
     | refine sgA (h1 := fun _ => ?_) (h0 := fun _ => ?_)
     | refine sbA (h1 := fun _ => ?_) (h0 := fun _ => ?_)
   | (with_reducible refine isP ?_); first
     | refine dqA (h := ?_)
     | refine dcA (i := 3) (l := [6, 5]) (hc := putA2 _ _ _ (by omega)) (h := ?_)
     | refine dcA (i := 3) (l := [6, 5]) (hc := put2 _ _ _ _ _ (by simp [bytesL_length]) (by omega) _ (by omega)) (h := ?_)
     | refine dcA (i := 3) (l := [6, 5]) (hc := put4 _ _ _ _ _ (by simp [bytesL_length]) (by omega) _ (by omega)) (h := ?_)
     | refine dcA (i := 3) (l := [6, 5]) (hc := put6 _ _ _ _ _ (by simp [bytesL_length]) (by omega) _ (by omega)) (h := ?_)
     | refine dcA (i := 7) (l := []) (hc := putA2 _ _ _ (by omega)) (h := ?_)
     | refine dcA (i := 7) (l := []) (hc := put2 _ _ _ _ _ (by simp [bytesL_length]) (by omega) _ (by omega)) (h := ?_)
     | refine dcA (i := 7) (l := []) (hc := put4 _ _ _ _ _ (by simp [bytesL_length]) (by omega) _ (by omega)) (h := ?_)
     | refine dcA (i := 7) (l := []) (hc := put6 _ _ _ _ _ (by simp [bytesL_length]) (by omega) _ (by omega)) (h := ?_)
     | refine dlA (i := 8) (l := []) (h := ?_)
   | (with_reducible refine isC ?_); first
     | refine ctA (h := ?_)
     | refine cfA (h := ?_)
     | refine cdA (h1 := fun _ => ?_) (h0 := fun _ => ?_)
     | refine cbA (h1 := fun _ => ?_) (h0 := fun _ => ?_)
   | (with_reducible refine isR ?_); first
     | refine Ev.drawn (by decide +kernel) (l := [0, 1, 2, 4, 5, 6, 3, 7, 8]) (by decide +kernel) ?_
     | refine Ev.drawn (by decide +kernel) (l := [0, 1, 2, 4, 5, 6, 3, 7, 8, 9]) (by decide +kernel) ?_
   | refine opsP bT22 (by simp (disch := (first | assumption | omega | (simp only [List.length_append, bytesL_length, ofBytes_length, List.length_take, List.length_drop, List.length_cons, List.length_nil]; omega))) only [↓opE, ↓evP, stE, binE, ldE, ↓tgP, ↓reduceIte, clE, ncE, szE, hgE, intBin, shiftBin, strBin, unV, indexAddrV, indexV, lenV, partV, isAggT, sliceV, boundsV, bndV, asIntV, fieldAddrV, fieldV, putAt, nilCheckV, makeIfaceV, stripAgg, stripCell, decide_eq_true_eq, beqD, bneD, notD, beqS, if_true, if_false, ite_true, ite_false, Bool.true_eq_false, Bool.false_eq_true, Nat.reduceEqDiff, Nat.reduceBEq, Nat.reduceAdd, Nat.reduceSub, Nat.reduceMul, Nat.min_def, Nat.reducePow, Nat.reduceLeDiff, Nat.reduceLT, Int.reduceEq, Int.reduceNe, Int.reduceLT, Int.reduceLE, Int.reduceToNat, Int.reduceAdd, Int.reduceSub, Int.reduceMul, Int.reducePow, Int.reduceNeg, Option.map_some, Option.map_none, Option.bind_some, Option.getD_some, Option.getD_none, ofBytes_length, ofBytes_get, ofBytes_take, ofBytes_drop, Int.toNat_natCast, Int.natCast_nonneg, and_self, true_and, and_true, List.getElem?_cons_zero, List.getElem?_cons_succ, decide_true, decide_false, Bool.not_true, Bool.not_false, List.getElem_toArray, List.getElem?_toArray, List.getElem_cons_succ, List.getElem_cons_zero, List.toList_toArray, List.map_cons, List.map_nil, List.take_succ_cons, List.take_zero, List.drop_succ_cons, List.drop_zero, List.length_cons, List.length_nil, List.nil_append, List.cons_append, List.append_nil, Nat.le_refl, Nat.zero_add, Nat.mul_one, Nat.add_zero, Nat.zero_lt_one, List.length_singleton, IntKind.bits, reduceCtorEq, not_true_eq_false, not_false_eq_true, ne_eq, if_pos, if_neg, wI64, wI32, wU8, wU16, wU32, wU64, Int.emod_eq_of_lt, Int.fdiv_eq_ediv_of_nonneg, Int.tdiv_eq_ediv_of_nonneg, Int.tmod_eq_emod_of_nonneg, tyE, Try.underlying25, Try.underlying36, cvE, bdE, ex]; with_reducible rfl) ?_
   | with_reducible refine Ev.seq ?_
   | with_reducible refine Ev.ops ?_
   | with_reducible refine NxE ?_
   | with_reducible refine BxN ?_
   | with_reducible refine BxX ?_
   | with_reducible refine NxX ?_
   | with_reducible refine NxR ?_
   | with_reducible refine BxR ?_
   | with_reducible refine NxG ?_
   | with_reducible refine BxG ?_
   | with_reducible refine GxR ?_
   | with_reducible refine GxN ?_
   | with_reducible refine GxX ?_
   | with_reducible refine Ev.goto ?_
   | with_reducible refine Ev.block ?_
   | with_reducible refine Ev.skip ?_
   | with_reducible refine Ev.exit ?_
   | with_reducible refine Ev.ret ?_
   | with_reducible refine Ev.label ?_
   | with_reducible refine EvOps.nil ?_
   | with_reducible refine EvPlan.nil ?_
   | (with_reducible refine BxO ?_ ?_; · decide)
   )
  all_goals first
    | (exfalso; omega)
    | (refine lsA (rl := [.tmp 2, .tmp 3]) rfl (hv := by
      simp only [leaveV, packV, strip, stripAgg, stripCell, hdrop, Nat.reduceLeDiff, List.map_cons, List.map_nil, show cx.grow 15 = true from rfl, show cx.keep 15 = true from rfl, show cx.frz 15 = false from rfl, if_false, if_true, Bool.false_eq_true]
      first | done | rfl | simp only [List.append_assoc] | omega))

set_option maxHeartbeats 4000000 in
theorem arp21b (H : List (Nat × Ob)) (op sha spa tha tpa : Int) (h1 : 0 ≤ sha) (h2 : sha < 18446744073709551616) (h3 : 0 ≤ spa) (h4 : spa < 4294967296) (h5 : 0 ≤ tha) (h6 : tha < 18446744073709551616) (h7 : 0 ≤ tpa) (h8 : tpa < 4294967296) (hno : ¬ (sha ≤ 281474976710655 ∧ tha ≤ 281474976710655 ∧ 0 ≤ op ∧ op ≤ 65535)) :
    FnS cx 15 [.agg [.int .i64 op, .int .u64 sha, .int .u32 spa, .int .u64 tha, .int .u32 tpa]] ⟨H, 21⟩ (.tup [.sl .full [], .int .i64 1]) ⟨(21, .cells [.int .i64 op, .int .u64 sha, .int .u32 spa, .int .u64 tha, .int .u32 tpa]) :: H, 22⟩ := by
  refine goS Try.func15 rfl rfl rfl rfl ?_
  intro t ht
  have a0 : tget t 0 = .agg [.int .i64 op, .int .u64 sha, .int .u32 spa, .int .u64 tha, .int .u32 tpa] := ht 0 _ rfl
  clear ht
  have ex := And.intro @a0 @bs6
  repeat' (first
   | (with_reducible refine isO ?_); first
     | refine mvA (h := ?_)
     | refine asA (h := ?_)
     | refine quA (h := ?_)
     | refine caA (hc := wordS _ _) (h := ?_)
     | refine caA (hc := putA2 _ _ _ (by omega)) (h := ?_)
     | refine caA (hc := put2 _ _ _ _ _ (by simp [bytesL_length]) (by omega) _ (by omega)) (h := ?_)
     | refine caA (hc := put4 _ _ _ _ _ (by simp [bytesL_length]) (by omega) _ (by omega)) (h := ?_)
     | refine caA (hc := put6 _ _ _ _ _ (by simp [bytesL_length]) (by omega) _ (by omega)) (h := ?_)
   | (with_reducible refine isG ?_); first
     | refine stA (h := ?_)
     | refine srA (h := ?_)
     | refine swA (h := ?_)
     | refine s1A (h := ?_)
     | refine s0A (h := ?_)
     | refine sgA (h1 := fun _ => ?_) (h0 := fun _ => ?_)
     | refine sbA (h1 := fun _ => ?_) (h0 := fun _ => ?_)
   | (with_reducible refine isP ?_); first
     | refine dqA (h := ?_)
     | refine dcA (i := 3) (l := [6, 5]) (hc := putA2 _ _ _ (by omega)) (h := ?_)
     | refine dcA (i := 3) (l := [6, 5]) (hc := put2 _ _ _ _ _ (by simp [bytesL_length]) (by omega) _ (by omega)) (h := ?_)
     | refine dcA (i := 3) (l := [6, 5]) (hc := put4 _ _ _ _ _ (by simp [bytesL_length]) (by omega) _ (by omega)) (h := ?_)
     | refine dcA (i := 3) (l := [6, 5]) (hc := put6 _ _ _ _ _ (by simp [bytesL_length]) (by omega) _ (by omega)) (h := ?_)
     | refine dcA (i := 7) (l := []) (hc := putA2 _ _ _ (by omega)) (h := ?_)
     | refine dcA (i := 7) (l := []) (hc := put2 _ _ _ _ _ (by simp [bytesL_length]) (by omega) _ (by omega)) (h := ?_)
     | refine dcA (i := 7) (l := []) (hc := put4 _ _ _ _ _ (by simp [bytesL_length]) (by omega) _ (by omega)) (h := ?_)
     | refine dcA (i := 7) (l := []) (hc := put6 _ _ _ _ _ (by simp [bytesL_length]) (by omega) _ (by omega)) (h := ?_)
     | refine dlA (i := 8) (l := []) (h := ?_)
   | (with_reducible refine isC ?_); first
     | refine ctA (h := ?_)
     | refine cfA (h := ?_)
     | refine cdA (h1 := fun _ => ?_) (h0 := fun _ => ?_)
     | refine cbA (h1 := fun _ => ?_) (h0 := fun _ => ?_)
   | (with_reducible refine isR ?_); first
     | refine Ev.drawn (by decide +kernel) (l := [0, 1, 2, 4, 5, 6, 3, 7, 8]) (by decide +kernel) ?_
     | refine Ev.drawn (by decide +kernel) (l := [0, 1, 2, 4, 5, 6, 3, 7, 8, 9]) (by decide +kernel) ?_
   | refine opsP bT22 (by simp (disch := (first | assumption | omega | (simp only [List.length_append, bytesL_length, ofBytes_length, List.length_take, List.length_drop, List.length_cons, List.length_nil]; omega))) only [↓opE, ↓evP, stE, binE, ldE, ↓tgP, ↓reduceIte, clE, ncE, szE, hgE, intBin, shiftBin, strBin, unV, indexAddrV, indexV, lenV, partV, isAggT, sliceV, boundsV, bndV, asIntV, fieldAddrV, fieldV, putAt, nilCheckV, makeIfaceV, stripAgg, stripCell, decide_eq_true_eq, beqD, bneD, notD, beqS, if_true, if_false, ite_true, ite_false, Bool.true_eq_false, Bool.false_eq_true, Nat.reduceEqDiff, Nat.reduceBEq, Nat.reduceAdd, Nat.reduceSub, Nat.reduceMul, Nat.min_def, Nat.reducePow, Nat.reduceLeDiff, Nat.reduceLT, Int.reduceEq, Int.reduceNe, Int.reduceLT, Int.reduceLE, Int.reduceToNat, Int.reduceAdd, Int.reduceSub, Int.reduceMul, Int.reducePow, Int.reduceNeg, Option.map_some, Option.map_none, Option.bind_some, Option.getD_some, Option.getD_none, ofBytes_length, ofBytes_get, ofBytes_take, ofBytes_drop, Int.toNat_natCast, Int.natCast_nonneg, and_self, true_and, and_true, List.getElem?_cons_zero, List.getElem?_cons_succ, decide_true, decide_false, Bool.not_true, Bool.not_false, List.getElem_toArray, List.getElem?_toArray, List.getElem_cons_succ, List.getElem_cons_zero, List.toList_toArray, List.map_cons, List.map_nil, List.take_succ_cons, List.take_zero, List.drop_succ_cons, List.drop_zero, List.length_cons, List.length_nil, List.nil_append, List.cons_append, List.append_nil, Nat.le_refl, Nat.zero_add, Nat.mul_one, Nat.add_zero, Nat.zero_lt_one, List.length_singleton, IntKind.bits, reduceCtorEq, not_true_eq_false, not_false_eq_true, ne_eq, if_pos, if_neg, wI64, wI32, wU8, wU16, wU32, wU64, Int.emod_eq_of_lt, Int.fdiv_eq_ediv_of_nonneg, Int.tdiv_eq_ediv_of_nonneg, Int.tmod_eq_emod_of_nonneg, tyE, Try.underlying25, Try.underlying36, cvE, bdE, ex]; with_reducible rfl) ?_
   | with_reducible refine Ev.seq ?_
   | with_reducible refine Ev.ops ?_
   | with_reducible refine NxE ?_
   | with_reducible refine BxN ?_
   | with_reducible refine BxX ?_
   | with_reducible refine NxX ?_
   | with_reducible refine NxR ?_
   | with_reducible refine BxR ?_
   | with_reducible refine NxG ?_
   | with_reducible refine BxG ?_
   | with_reducible refine GxR ?_
   | with_reducible refine GxN ?_
   | with_reducible refine GxX ?_
   | with_reducible refine Ev.goto ?_
   | with_reducible refine Ev.block ?_
   | with_reducible refine Ev.skip ?_
   | with_reducible refine Ev.exit ?_
   | with_reducible refine Ev.ret ?_
   | with_reducible refine Ev.label ?_
   | with_reducible refine EvOps.nil ?_
   | with_reducible refine EvPlan.nil ?_
   | (with_reducible refine BxO ?_ ?_; · decide)
   )
  all_goals first
    | (exfalso; omega)
    | (refine lsA (rl := [.tmp 2, .tmp 3]) rfl (hv := by
      simp only [leaveV, packV, strip, stripAgg, stripCell, hdrop, Nat.reduceLeDiff, List.map_cons, List.map_nil, show cx.grow 15 = true from rfl, show cx.keep 15 = true from rfl, show cx.frz 15 = false from rfl, if_false, if_true, Bool.false_eq_true]
      first | done | rfl | simp only [List.append_assoc] | omega))

end M
end Go.Proofs.Ytfjhanjpacghkaa
