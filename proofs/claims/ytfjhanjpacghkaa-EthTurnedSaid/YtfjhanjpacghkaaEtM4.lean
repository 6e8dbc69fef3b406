/- The law of another byte: where nothing is turned. -/
import Derived.Test.YtfjhanjpacghkaaEtM2
set_option linter.unusedSimpArgs false
set_option linter.unusedVariables false
set_option maxRecDepth 100000
namespace Go.Proofs.Ytfjhanjpacghkaa.M
open Go Go.Vm Go.Proofs Go.Proofs.Ytfjhanjpacghkaa

set_option maxHeartbeats 4000000 in
theorem same_fokok (d sr tag ty : Int) (hd : 0 ≤ d) (hs : 0 ≤ sr) (g1 : d ≤ 281474976710655) (g2 : sr ≤ 281474976710655) (g4 : 0 ≤ ty ∧ ty ≤ 65535) (g5 : ty ≠ 33024) (op sha spa tha tpa : Int) (h1 : 0 ≤ sha) (h2 : sha < 18446744073709551616) (h3 : 0 ≤ spa) (h4 : spa < 4294967296) (h5 : 0 ≤ tha) (h6 : tha < 18446744073709551616) (h7 : 0 ≤ tpa) (h8 : tpa < 4294967296) (k1 : sha ≤ 281474976710655) (k2 : tha ≤ 281474976710655) (k3 : 0 ≤ op) (k4 : op ≤ 65535) (at_ by_ : Int) (st : St) :
    FnS cx 7 [.agg [.int .u64 d, .int .u64 sr, .bool false, .int .i64 0, .int .i64 ty], .agg [.int .i64 op, .int .u64 sha, .int .u32 spa, .int .u64 tha, .int .u32 tpa], .int .i64 at_, .int .u8 0] st (.bool true) st := by
  refine goP Try.func7 rfl rfl rfl rfl ?_ ?_
  · rfl
  intro t ht
  have a0 : tget t 0 = .agg [.int .u64 d, .int .u64 sr, .bool false, .int .i64 0, .int .i64 ty] := ht 0 _ rfl
  have a1 : tget t 1 = .agg [.int .i64 op, .int .u64 sha, .int .u32 spa, .int .u64 tha, .int .u32 tpa] := ht 1 _ rfl
  have a2 : tget t 2 = .int .i64 at_ := ht 2 _ rfl
  have a3 : tget t 3 = .int .u8 0 := ht 3 _ rfl
  clear ht
  have ex := And.intro @a0 (And.intro @a1 (And.intro @a2 @a3))
  repeat' (first
   | (with_reducible refine isO ?_); first
     | refine mvA (h := ?_)
     | refine asA (h := ?_)
     | refine quA (h := ?_)
     | refine wnA (h := ?_)
     | refine caA (hc := (encP _ _ _ 0 _ hd hs g1 g2 g4 g5)) (h := ?_)
     | refine caA (hc := (arp17 _ _ _ _ _ _ h1 h2 h3 h4 h5 h6 h7 h8 k1 k2 k3 k4)) (h := ?_)
     | refine caA (hc := livesS _) (h := ?_)
   | (with_reducible refine isG ?_); first
     | refine stA (h := ?_)
     | refine srA (h := ?_)
     | refine swA (h := ?_)
     | refine s1A (h := ?_)
     | refine s0A (h := ?_)
     | refine sgA (h1 := fun _ => ?_) (h0 := fun _ => ?_)
     | refine sbA (h1 := fun _ => ?_) (h0 := fun _ => ?_)
   | (with_reducible refine isP ?_); first
     | refine dqA (h := ?_)
     | refine dnA (i := 17) (l := []) (h := ?_)
     | refine dnA (i := 19) (l := []) (h := ?_)
   | (with_reducible refine isC ?_); first
     | refine ctA (h := ?_)
     | refine cfA (h := ?_)
     | refine cdA (h1 := fun _ => ?_) (h0 := fun _ => ?_)
     | refine cbA (h1 := fun _ => ?_) (h0 := fun _ => ?_)
   | (with_reducible refine isR ?_); first
     | refine Ev.drawn (by decide +kernel) (l := [0, 1, 2, 3, 4, 5, 6, 7, 8, 9, 10, 11, 12, 13, 14, 15, 16, 17, 18, 19]) (by decide +kernel) ?_
   | with_reducible refine Ev.seq ?_
   | with_reducible refine Ev.ops ?_
   | with_reducible refine NxE ?_
   | with_reducible refine BxN ?_
   | with_reducible refine BxX ?_
   | with_reducible refine NxX ?_
   | with_reducible refine NxR ?_
   | with_reducible refine BxR ?_
   | with_reducible refine NxG ?_
   | with_reducible refine BxG ?_
   | with_reducible refine GxR ?_
   | with_reducible refine GxN ?_
   | with_reducible refine GxX ?_
   | with_reducible refine Ev.goto ?_
   | with_reducible refine Ev.block ?_
   | with_reducible refine Ev.skip ?_
   | with_reducible refine Ev.exit ?_
   | with_reducible refine Ev.ret ?_
   | with_reducible refine Ev.label ?_
   | with_reducible refine EvOps.nil ?_
   | with_reducible refine EvPlan.nil ?_
   | (with_reducible refine BxO ?_ ?_; · decide)
   )
  all_goals refine lfA (rl := [.tmp 8]) rfl (hv := by
      simp only [packV, strip, stripAgg, stripCell, List.map_cons, List.map_nil]
      first | done | rfl) (hp := (show pureV (.bool true) = true from rfl))

set_option maxHeartbeats 4000000 in
theorem same_fokno (d sr tag ty : Int) (hd : 0 ≤ d) (hs : 0 ≤ sr) (g1 : d ≤ 281474976710655) (g2 : sr ≤ 281474976710655) (g4 : 0 ≤ ty ∧ ty ≤ 65535) (g5 : ty ≠ 33024) (op sha spa tha tpa : Int) (h1 : 0 ≤ sha) (h2 : sha < 18446744073709551616) (h3 : 0 ≤ spa) (h4 : spa < 4294967296) (h5 : 0 ≤ tha) (h6 : tha < 18446744073709551616) (h7 : 0 ≤ tpa) (h8 : tpa < 4294967296) (ano : ¬ (sha ≤ 281474976710655 ∧ tha ≤ 281474976710655 ∧ 0 ≤ op ∧ op ≤ 65535)) (at_ by_ : Int) (st : St) :
    FnS cx 7 [.agg [.int .u64 d, .int .u64 sr, .bool false, .int .i64 0, .int .i64 ty], .agg [.int .i64 op, .int .u64 sha, .int .u32 spa, .int .u64 tha, .int .u32 tpa], .int .i64 at_, .int .u8 by_] st (.bool true) st := by
  refine goP Try.func7 rfl rfl rfl rfl ?_ ?_
  · rfl
  intro t ht
  have a0 : tget t 0 = .agg [.int .u64 d, .int .u64 sr, .bool false, .int .i64 0, .int .i64 ty] := ht 0 _ rfl
  have a1 : tget t 1 = .agg [.int .i64 op, .int .u64 sha, .int .u32 spa, .int .u64 tha, .int .u32 tpa] := ht 1 _ rfl
  have a2 : tget t 2 = .int .i64 at_ := ht 2 _ rfl
  have a3 : tget t 3 = .int .u8 by_ := ht 3 _ rfl
  clear ht
  have ex := And.intro @a0 (And.intro @a1 (And.intro @a2 @a3))
  repeat' (first
   | (with_reducible refine isO ?_); first
     | refine mvA (h := ?_)
     | refine asA (h := ?_)
     | refine quA (h := ?_)
     | refine wnA (h := ?_)
     | refine caA (hc := (encP _ _ _ 0 _ hd hs g1 g2 g4 g5)) (h := ?_)
     | refine caA (hc := (arp17b _ _ _ _ _ _ h1 h2 h3 h4 h5 h6 h7 h8 ano)) (h := ?_)
     | refine caA (hc := livesS _) (h := ?_)
   | (with_reducible refine isG ?_); first
     | refine stA (h := ?_)
     | refine srA (h := ?_)
     | refine swA (h := ?_)
     | refine s1A (h := ?_)
     | refine s0A (h := ?_)
     | refine sgA (h1 := fun _ => ?_) (h0 := fun _ => ?_)
     | refine sbA (h1 := fun _ => ?_) (h0 := fun _ => ?_)
   | (with_reducible refine isP ?_); first
     | refine dqA (h := ?_)
     | refine dnA (i := 17) (l := []) (h := ?_)
     | refine dnA (i := 19) (l := []) (h := ?_)
   | (with_reducible refine isC ?_); first
     | refine ctA (h := ?_)
     | refine cfA (h := ?_)
     | refine cdA (h1 := fun _ => ?_) (h0 := fun _ => ?_)
     | refine cbA (h1 := fun _ => ?_) (h0 := fun _ => ?_)
   | (with_reducible refine isR ?_); first
     | refine Ev.drawn (by decide +kernel) (l := [0, 1, 2, 3, 4, 5, 6, 7, 8, 9, 10, 11, 12, 13, 14, 15, 16, 17, 18, 19]) (by decide +kernel) ?_
   | with_reducible refine Ev.seq ?_
   | with_reducible refine Ev.ops ?_
   | with_reducible refine NxE ?_
   | with_reducible refine BxN ?_
   | with_reducible refine BxX ?_
   | with_reducible refine NxX ?_
   | with_reducible refine NxR ?_
   | with_reducible refine BxR ?_
   | with_reducible refine NxG ?_
   | with_reducible refine BxG ?_
   | with_reducible refine GxR ?_
   | with_reducible refine GxN ?_
   | with_reducible refine GxX ?_
   | with_reducible refine Ev.goto ?_
   | with_reducible refine Ev.block ?_
   | with_reducible refine Ev.skip ?_
   | with_reducible refine Ev.exit ?_
   | with_reducible refine Ev.ret ?_
   | with_reducible refine Ev.label ?_
   | with_reducible refine EvOps.nil ?_
   | with_reducible refine EvPlan.nil ?_
   | (with_reducible refine BxO ?_ ?_; · decide)
   )
  all_goals refine lfA (rl := [.tmp 8]) rfl (hv := by
      simp only [packV, strip, stripAgg, stripCell, List.map_cons, List.map_nil]
      first | done | rfl) (hp := (show pureV (.bool true) = true from rfl))

set_option maxHeartbeats 4000000 in
theorem same_fnook (d sr tag ty : Int) (hd : 0 ≤ d) (hs : 0 ≤ sr) (hno : ¬ (d ≤ 281474976710655 ∧ sr ≤ 281474976710655 ∧ (0 ≤ tag ∧ tag ≤ 65535) ∧ (0 ≤ ty ∧ ty ≤ 65535) ∧ ty ≠ 33024 ∧ tag = 0)) (op sha spa tha tpa : Int) (h1 : 0 ≤ sha) (h2 : sha < 18446744073709551616) (h3 : 0 ≤ spa) (h4 : spa < 4294967296) (h5 : 0 ≤ tha) (h6 : tha < 18446744073709551616) (h7 : 0 ≤ tpa) (h8 : tpa < 4294967296) (k1 : sha ≤ 281474976710655) (k2 : tha ≤ 281474976710655) (k3 : 0 ≤ op) (k4 : op ≤ 65535) (at_ by_ : Int) (st : St) :
    FnS cx 7 [.agg [.int .u64 d, .int .u64 sr, .bool false, .int .i64 tag, .int .i64 ty], .agg [.int .i64 op, .int .u64 sha, .int .u32 spa, .int .u64 tha, .int .u32 tpa], .int .i64 at_, .int .u8 by_] st (.bool true) st := by
  refine goP Try.func7 rfl rfl rfl rfl ?_ ?_
  · rfl
  intro t ht
  have a0 : tget t 0 = .agg [.int .u64 d, .int .u64 sr, .bool false, .int .i64 tag, .int .i64 ty] := ht 0 _ rfl
  have a1 : tget t 1 = .agg [.int .i64 op, .int .u64 sha, .int .u32 spa, .int .u64 tha, .int .u32 tpa] := ht 1 _ rfl
  have a2 : tget t 2 = .int .i64 at_ := ht 2 _ rfl
  have a3 : tget t 3 = .int .u8 by_ := ht 3 _ rfl
  clear ht
  have ex := And.intro @a0 (And.intro @a1 (And.intro @a2 @a3))
  repeat' (first
   | (with_reducible refine isO ?_); first
     | refine mvA (h := ?_)
     | refine asA (h := ?_)
     | refine quA (h := ?_)
     | refine wnA (h := ?_)
     | refine caA (hc := (encPb _ _ _ _ _ hd hs hno)) (h := ?_)
     | refine caA (hc := (arp3 _ _ _ _ _ _ h1 h2 h3 h4 h5 h6 h7 h8 k1 k2 k3 k4)) (h := ?_)
     | refine caA (hc := livesS _) (h := ?_)
   | (with_reducible refine isG ?_); first
     | refine stA (h := ?_)
     | refine srA (h := ?_)
     | refine swA (h := ?_)
     | refine s1A (h := ?_)
     | refine s0A (h := ?_)
     | refine sgA (h1 := fun _ => ?_) (h0 := fun _ => ?_)
     | refine sbA (h1 := fun _ => ?_) (h0 := fun _ => ?_)
   | (with_reducible refine isP ?_); first
     | refine dqA (h := ?_)
     | refine dnA (i := 17) (l := []) (h := ?_)
     | refine dnA (i := 19) (l := []) (h := ?_)
   | (with_reducible refine isC ?_); first
     | refine ctA (h := ?_)
     | refine cfA (h := ?_)
     | refine cdA (h1 := fun _ => ?_) (h0 := fun _ => ?_)
     | refine cbA (h1 := fun _ => ?_) (h0 := fun _ => ?_)
   | (with_reducible refine isR ?_); first
     | refine Ev.drawn (by decide +kernel) (l := [0, 1, 2, 3, 4, 5, 6, 7, 8, 9, 10, 11, 12, 13, 14, 15, 16, 17, 18, 19]) (by decide +kernel) ?_
   | with_reducible refine Ev.seq ?_
   | with_reducible refine Ev.ops ?_
   | with_reducible refine NxE ?_
   | with_reducible refine BxN ?_
   | with_reducible refine BxX ?_
   | with_reducible refine NxX ?_
   | with_reducible refine NxR ?_
   | with_reducible refine BxR ?_
   | with_reducible refine NxG ?_
   | with_reducible refine BxG ?_
   | with_reducible refine GxR ?_
   | with_reducible refine GxN ?_
   | with_reducible refine GxX ?_
   | with_reducible refine Ev.goto ?_
   | with_reducible refine Ev.block ?_
   | with_reducible refine Ev.skip ?_
   | with_reducible refine Ev.exit ?_
   | with_reducible refine Ev.ret ?_
   | with_reducible refine Ev.label ?_
   | with_reducible refine EvOps.nil ?_
   | with_reducible refine EvPlan.nil ?_
   | (with_reducible refine BxO ?_ ?_; · decide)
   )
  all_goals refine lfA (rl := [.tmp 8]) rfl (hv := by
      simp only [packV, strip, stripAgg, stripCell, List.map_cons, List.map_nil]
      first | done | rfl) (hp := (show pureV (.bool true) = true from rfl))

set_option maxHeartbeats 4000000 in
theorem same_fnono (d sr tag ty : Int) (hd : 0 ≤ d) (hs : 0 ≤ sr) (hno : ¬ (d ≤ 281474976710655 ∧ sr ≤ 281474976710655 ∧ (0 ≤ tag ∧ tag ≤ 65535) ∧ (0 ≤ ty ∧ ty ≤ 65535) ∧ ty ≠ 33024 ∧ tag = 0)) (op sha spa tha tpa : Int) (h1 : 0 ≤ sha) (h2 : sha < 18446744073709551616) (h3 : 0 ≤ spa) (h4 : spa < 4294967296) (h5 : 0 ≤ tha) (h6 : tha < 18446744073709551616) (h7 : 0 ≤ tpa) (h8 : tpa < 4294967296) (ano : ¬ (sha ≤ 281474976710655 ∧ tha ≤ 281474976710655 ∧ 0 ≤ op ∧ op ≤ 65535)) (at_ by_ : Int) (st : St) :
    FnS cx 7 [.agg [.int .u64 d, .int .u64 sr, .bool false, .int .i64 tag, .int .i64 ty], .agg [.int .i64 op, .int .u64 sha, .int .u32 spa, .int .u64 tha, .int .u32 tpa], .int .i64 at_, .int .u8 by_] st (.bool true) st := by
  refine goP Try.func7 rfl rfl rfl rfl ?_ ?_
  · rfl
  intro t ht
  have a0 : tget t 0 = .agg [.int .u64 d, .int .u64 sr, .bool false, .int .i64 tag, .int .i64 ty] := ht 0 _ rfl
  have a1 : tget t 1 = .agg [.int .i64 op, .int .u64 sha, .int .u32 spa, .int .u64 tha, .int .u32 tpa] := ht 1 _ rfl
  have a2 : tget t 2 = .int .i64 at_ := ht 2 _ rfl
  have a3 : tget t 3 = .int .u8 by_ := ht 3 _ rfl
  clear ht
  have ex := And.intro @a0 (And.intro @a1 (And.intro @a2 @a3))
  repeat' (first
   | (with_reducible refine isO ?_); first
     | refine mvA (h := ?_)
     | refine asA (h := ?_)
     | refine quA (h := ?_)
     | refine wnA (h := ?_)
     | refine caA (hc := (encPb _ _ _ _ _ hd hs hno)) (h := ?_)
     | refine caA (hc := (arp3b _ _ _ _ _ _ h1 h2 h3 h4 h5 h6 h7 h8 ano)) (h := ?_)
     | refine caA (hc := livesS _) (h := ?_)
   | (with_reducible refine isG ?_); first
     | refine stA (h := ?_)
     | refine srA (h := ?_)
     | refine swA (h := ?_)
     | refine s1A (h := ?_)
     | refine s0A (h := ?_)
     | refine sgA (h1 := fun _ => ?_) (h0 := fun _ => ?_)
     | refine sbA (h1 := fun _ => ?_) (h0 := fun _ => ?_)
   | (with_reducible refine isP ?_); first
     | refine dqA (h := ?_)
     | refine dnA (i := 17) (l := []) (h := ?_)
     | refine dnA (i := 19) (l := []) (h := ?_)
   | (with_reducible refine isC ?_); first
     | refine ctA (h := ?_)
     | refine cfA (h := ?_)
     | refine cdA (h1 := fun _ => ?_) (h0 := fun _ => ?_)
     | refine cbA (h1 := fun _ => ?_) (h0 := fun _ => ?_)
   | (with_reducible refine isR ?_); first
     | refine Ev.drawn (by decide +kernel) (l := [0, 1, 2, 3, 4, 5, 6, 7, 8, 9, 10, 11, 12, 13, 14, 15, 16, 17, 18, 19]) (by decide +kernel) ?_
   | with_reducible refine Ev.seq ?_
   | with_reducible refine Ev.ops ?_
   | with_reducible refine NxE ?_
   | with_reducible refine BxN ?_
   | with_reducible refine BxX ?_
   | with_reducible refine NxX ?_
   | with_reducible refine NxR ?_
   | with_reducible refine BxR ?_
   | with_reducible refine NxG ?_
   | with_reducible refine BxG ?_
   | with_reducible refine GxR ?_
   | with_reducible refine GxN ?_
   | with_reducible refine GxX ?_
   | with_reducible refine Ev.goto ?_
   | with_reducible refine Ev.block ?_
   | with_reducible refine Ev.skip ?_
   | with_reducible refine Ev.exit ?_
   | with_reducible refine Ev.ret ?_
   | with_reducible refine Ev.label ?_
   | with_reducible refine EvOps.nil ?_
   | with_reducible refine EvPlan.nil ?_
   | (with_reducible refine BxO ?_ ?_; · decide)
   )
  all_goals refine lfA (rl := [.tmp 8]) rfl (hv := by
      simp only [packV, strip, stripAgg, stripCell, List.map_cons, List.map_nil]
      first | done | rfl) (hp := (show pureV (.bool true) = true from rfl))

set_option maxHeartbeats 4000000 in
theorem same_tokok (d sr tag ty : Int) (hd : 0 ≤ d) (hs : 0 ≤ sr) (g1 : d ≤ 281474976710655) (g2 : sr ≤ 281474976710655) (g3 : 0 ≤ tag ∧ tag ≤ 65535) (g4 : 0 ≤ ty ∧ ty ≤ 65535) (g5 : ty ≠ 33024) (op sha spa tha tpa : Int) (h1 : 0 ≤ sha) (h2 : sha < 18446744073709551616) (h3 : 0 ≤ spa) (h4 : spa < 4294967296) (h5 : 0 ≤ tha) (h6 : tha < 18446744073709551616) (h7 : 0 ≤ tpa) (h8 : tpa < 4294967296) (k1 : sha ≤ 281474976710655) (k2 : tha ≤ 281474976710655) (k3 : 0 ≤ op) (k4 : op ≤ 65535) (at_ by_ : Int) (st : St) :
    FnS cx 7 [.agg [.int .u64 d, .int .u64 sr, .bool true, .int .i64 tag, .int .i64 ty], .agg [.int .i64 op, .int .u64 sha, .int .u32 spa, .int .u64 tha, .int .u32 tpa], .int .i64 at_, .int .u8 0] st (.bool true) st := by
  refine goP Try.func7 rfl rfl rfl rfl ?_ ?_
  · rfl
  intro t ht
  have a0 : tget t 0 = .agg [.int .u64 d, .int .u64 sr, .bool true, .int .i64 tag, .int .i64 ty] := ht 0 _ rfl
  have a1 : tget t 1 = .agg [.int .i64 op, .int .u64 sha, .int .u32 spa, .int .u64 tha, .int .u32 tpa] := ht 1 _ rfl
  have a2 : tget t 2 = .int .i64 at_ := ht 2 _ rfl
  have a3 : tget t 3 = .int .u8 0 := ht 3 _ rfl
  clear ht
  have ex := And.intro @a0 (And.intro @a1 (And.intro @a2 @a3))
  repeat' (first
   | (with_reducible refine isO ?_); first
     | refine mvA (h := ?_)
     | refine asA (h := ?_)
     | refine quA (h := ?_)
     | refine wnA (h := ?_)
     | refine caA (hc := (encT _ _ _ _ _ hd hs g1 g2 g3 g4 g5)) (h := ?_)
     | refine caA (hc := (arp21 _ _ _ _ _ _ h1 h2 h3 h4 h5 h6 h7 h8 k1 k2 k3 k4)) (h := ?_)
     | refine caA (hc := livesS _) (h := ?_)
   | (with_reducible refine isG ?_); first
     | refine stA (h := ?_)
     | refine srA (h := ?_)
     | refine swA (h := ?_)
     | refine s1A (h := ?_)
     | refine s0A (h := ?_)
     | refine sgA (h1 := fun _ => ?_) (h0 := fun _ => ?_)
     | refine sbA (h1 := fun _ => ?_) (h0 := fun _ => ?_)
   | (with_reducible refine isP ?_); first
     | refine dqA (h := ?_)
     | refine dnA (i := 17) (l := []) (h := ?_)
     | refine dnA (i := 19) (l := []) (h := ?_)
   | (with_reducible refine isC ?_); first
     | refine ctA (h := ?_)
     | refine cfA (h := ?_)
     | refine cdA (h1 := fun _ => ?_) (h0 := fun _ => ?_)
     | refine cbA (h1 := fun _ => ?_) (h0 := fun _ => ?_)
   | (with_reducible refine isR ?_); first
     | refine Ev.drawn (by decide +kernel) (l := [0, 1, 2, 3, 4, 5, 6, 7, 8, 9, 10, 11, 12, 13, 14, 15, 16, 17, 18, 19]) (by decide +kernel) ?_
   | with_reducible refine Ev.seq ?_
   | with_reducible refine Ev.ops ?_
   | with_reducible refine NxE ?_
   | with_reducible refine BxN ?_
   | with_reducible refine BxX ?_
   | with_reducible refine NxX ?_
   | with_reducible refine NxR ?_
   | with_reducible refine BxR ?_
   | with_reducible refine NxG ?_
   | with_reducible refine BxG ?_
   | with_reducible refine GxR ?_
   | with_reducible refine GxN ?_
   | with_reducible refine GxX ?_
   | with_reducible refine Ev.goto ?_
   | with_reducible refine Ev.block ?_
   | with_reducible refine Ev.skip ?_
   | with_reducible refine Ev.exit ?_
   | with_reducible refine Ev.ret ?_
   | with_reducible refine Ev.label ?_
   | with_reducible refine EvOps.nil ?_
   | with_reducible refine EvPlan.nil ?_
   | (with_reducible refine BxO ?_ ?_; · decide)
   )
  all_goals refine lfA (rl := [.tmp 8]) rfl (hv := by
      simp only [packV, strip, stripAgg, stripCell, List.map_cons, List.map_nil]
      first | done | rfl) (hp := (show pureV (.bool true) = true from rfl))

set_option maxHeartbeats 4000000 in
theorem same_tokno (d sr tag ty : Int) (hd : 0 ≤ d) (hs : 0 ≤ sr) (g1 : d ≤ 281474976710655) (g2 : sr ≤ 281474976710655) (g3 : 0 ≤ tag ∧ tag ≤ 65535) (g4 : 0 ≤ ty ∧ ty ≤ 65535) (g5 : ty ≠ 33024) (op sha spa tha tpa : Int) (h1 : 0 ≤ sha) (h2 : sha < 18446744073709551616) (h3 : 0 ≤ spa) (h4 : spa < 4294967296) (h5 : 0 ≤ tha) (h6 : tha < 18446744073709551616) (h7 : 0 ≤ tpa) (h8 : tpa < 4294967296) (ano : ¬ (sha ≤ 281474976710655 ∧ tha ≤ 281474976710655 ∧ 0 ≤ op ∧ op ≤ 65535)) (at_ by_ : Int) (st : St) :
    FnS cx 7 [.agg [.int .u64 d, .int .u64 sr, .bool true, .int .i64 tag, .int .i64 ty], .agg [.int .i64 op, .int .u64 sha, .int .u32 spa, .int .u64 tha, .int .u32 tpa], .int .i64 at_, .int .u8 by_] st (.bool true) st := by
  refine goP Try.func7 rfl rfl rfl rfl ?_ ?_
  · rfl
  intro t ht
  have a0 : tget t 0 = .agg [.int .u64 d, .int .u64 sr, .bool true, .int .i64 tag, .int .i64 ty] := ht 0 _ rfl
  have a1 : tget t 1 = .agg [.int .i64 op, .int .u64 sha, .int .u32 spa, .int .u64 tha, .int .u32 tpa] := ht 1 _ rfl
  have a2 : tget t 2 = .int .i64 at_ := ht 2 _ rfl
  have a3 : tget t 3 = .int .u8 by_ := ht 3 _ rfl
  clear ht
  have ex := And.intro @a0 (And.intro @a1 (And.intro @a2 @a3))
  repeat' (first
   | (with_reducible refine isO ?_); first
     | refine mvA (h := ?_)
     | refine asA (h := ?_)
     | refine quA (h := ?_)
     | refine wnA (h := ?_)
     | refine caA (hc := (encT _ _ _ _ _ hd hs g1 g2 g3 g4 g5)) (h := ?_)
     | refine caA (hc := (arp21b _ _ _ _ _ _ h1 h2 h3 h4 h5 h6 h7 h8 ano)) (h := ?_)
     | refine caA (hc := livesS _) (h := ?_)
   | (with_reducible refine isG ?_); first
     | refine stA (h := ?_)
     | refine srA (h := ?_)
     | refine swA (h := ?_)
     | refine s1A (h := ?_)
     | refine s0A (h := ?_)
     | refine sgA (h1 := fun _ => ?_) (h0 := fun _ => ?_)
     | refine sbA (h1 := fun _ => ?_) (h0 := fun _ => ?_)
   | (with_reducible refine isP ?_); first
     | refine dqA (h := ?_)
     | refine dnA (i := 17) (l := []) (h := ?_)
     | refine dnA (i := 19) (l := []) (h := ?_)
   | (with_reducible refine isC ?_); first
     | refine ctA (h := ?_)
     | refine cfA (h := ?_)
     | refine cdA (h1 := fun _ => ?_) (h0 := fun _ => ?_)
     | refine cbA (h1 := fun _ => ?_) (h0 := fun _ => ?_)
   | (with_reducible refine isR ?_); first
     | refine Ev.drawn (by decide +kernel) (l := [0, 1, 2, 3, 4, 5, 6, 7, 8, 9, 10, 11, 12, 13, 14, 15, 16, 17, 18, 19]) (by decide +kernel) ?_
   | with_reducible refine Ev.seq ?_
   | with_reducible refine Ev.ops ?_
   | with_reducible refine NxE ?_
   | with_reducible refine BxN ?_
   | with_reducible refine BxX ?_
   | with_reducible refine NxX ?_
   | with_reducible refine NxR ?_
   | with_reducible refine BxR ?_
   | with_reducible refine NxG ?_
   | with_reducible refine BxG ?_
   | with_reducible refine GxR ?_
   | with_reducible refine GxN ?_
   | with_reducible refine GxX ?_
   | with_reducible refine Ev.goto ?_
   | with_reducible refine Ev.block ?_
   | with_reducible refine Ev.skip ?_
   | with_reducible refine Ev.exit ?_
   | with_reducible refine Ev.ret ?_
   | with_reducible refine Ev.label ?_
   | with_reducible refine EvOps.nil ?_
   | with_reducible refine EvPlan.nil ?_
   | (with_reducible refine BxO ?_ ?_; · decide)
   )
  all_goals refine lfA (rl := [.tmp 8]) rfl (hv := by
      simp only [packV, strip, stripAgg, stripCell, List.map_cons, List.map_nil]
      first | done | rfl) (hp := (show pureV (.bool true) = true from rfl))

set_option maxHeartbeats 4000000 in
theorem same_tnook (d sr tag ty : Int) (hd : 0 ≤ d) (hs : 0 ≤ sr) (hno : ¬ (d ≤ 281474976710655 ∧ sr ≤ 281474976710655 ∧ (0 ≤ tag ∧ tag ≤ 65535) ∧ (0 ≤ ty ∧ ty ≤ 65535) ∧ ty ≠ 33024)) (op sha spa tha tpa : Int) (h1 : 0 ≤ sha) (h2 : sha < 18446744073709551616) (h3 : 0 ≤ spa) (h4 : spa < 4294967296) (h5 : 0 ≤ tha) (h6 : tha < 18446744073709551616) (h7 : 0 ≤ tpa) (h8 : tpa < 4294967296) (k1 : sha ≤ 281474976710655) (k2 : tha ≤ 281474976710655) (k3 : 0 ≤ op) (k4 : op ≤ 65535) (at_ by_ : Int) (st : St) :
    FnS cx 7 [.agg [.int .u64 d, .int .u64 sr, .bool true, .int .i64 tag, .int .i64 ty], .agg [.int .i64 op, .int .u64 sha, .int .u32 spa, .int .u64 tha, .int .u32 tpa], .int .i64 at_, .int .u8 by_] st (.bool true) st := by
  refine goP Try.func7 rfl rfl rfl rfl ?_ ?_
  · rfl
  intro t ht
  have a0 : tget t 0 = .agg [.int .u64 d, .int .u64 sr, .bool true, .int .i64 tag, .int .i64 ty] := ht 0 _ rfl
  have a1 : tget t 1 = .agg [.int .i64 op, .int .u64 sha, .int .u32 spa, .int .u64 tha, .int .u32 tpa] := ht 1 _ rfl
  have a2 : tget t 2 = .int .i64 at_ := ht 2 _ rfl
  have a3 : tget t 3 = .int .u8 by_ := ht 3 _ rfl
  clear ht
  have ex := And.intro @a0 (And.intro @a1 (And.intro @a2 @a3))
  repeat' (first
   | (with_reducible refine isO ?_); first
     | refine mvA (h := ?_)
     | refine asA (h := ?_)
     | refine quA (h := ?_)
     | refine wnA (h := ?_)
     | refine caA (hc := (encTb _ _ _ _ _ hd hs hno)) (h := ?_)
     | refine caA (hc := (arp3 _ _ _ _ _ _ h1 h2 h3 h4 h5 h6 h7 h8 k1 k2 k3 k4)) (h := ?_)
     | refine caA (hc := livesS _) (h := ?_)
   | (with_reducible refine isG ?_); first
     | refine stA (h := ?_)
     | refine srA (h := ?_)
     | refine swA (h := ?_)
     | refine s1A (h := ?_)
     | refine s0A (h := ?_)
     | refine sgA (h1 := fun _ => ?_) (h0 := fun _ => ?_)
     | refine sbA (h1 := fun _ => ?_) (h0 := fun _ => ?_)
   | (with_reducible refine isP ?_); first
     | refine dqA (h := ?_)
     | refine dnA (i := 17) (l := []) (h := ?_)
     | refine dnA (i := 19) (l := []) (h := ?_)
   | (with_reducible refine isC ?_); first
     | refine ctA (h := ?_)
     | refine cfA (h := ?_)
     | refine cdA (h1 := fun _ => ?_) (h0 := fun _ => ?_)
     | refine cbA (h1 := fun _ => ?_) (h0 := fun _ => ?_)
   | (with_reducible refine isR ?_); first
     | refine Ev.drawn (by decide +kernel) (l := [0, 1, 2, 3, 4, 5, 6, 7, 8, 9, 10, 11, 12, 13, 14, 15, 16, 17, 18, 19]) (by decide +kernel) ?_
   | with_reducible refine Ev.seq ?_
   | with_reducible refine Ev.ops ?_
   | with_reducible refine NxE ?_
   | with_reducible refine BxN ?_
   | with_reducible refine BxX ?_
   | with_reducible refine NxX ?_
   | with_reducible refine NxR ?_
   | with_reducible refine BxR ?_
   | with_reducible refine NxG ?_
   | with_reducible refine BxG ?_
   | with_reducible refine GxR ?_
   | with_reducible refine GxN ?_
   | with_reducible refine GxX ?_
   | with_reducible refine Ev.goto ?_
   | with_reducible refine Ev.block ?_
   | with_reducible refine Ev.skip ?_
   | with_reducible refine Ev.exit ?_
   | with_reducible refine Ev.ret ?_
   | with_reducible refine Ev.label ?_
   | with_reducible refine EvOps.nil ?_
   | with_reducible refine EvPlan.nil ?_
   | (with_reducible refine BxO ?_ ?_; · decide)
   )
  all_goals refine lfA (rl := [.tmp 8]) rfl (hv := by
      simp only [packV, strip, stripAgg, stripCell, List.map_cons, List.map_nil]
      first | done | rfl) (hp := (show pureV (.bool true) = true from rfl))

set_option maxHeartbeats 4000000 in
theorem same_tnono (d sr tag ty : Int) (hd : 0 ≤ d) (hs : 0 ≤ sr) (hno : ¬ (d ≤ 281474976710655 ∧ sr ≤ 281474976710655 ∧ (0 ≤ tag ∧ tag ≤ 65535) ∧ (0 ≤ ty ∧ ty ≤ 65535) ∧ ty ≠ 33024)) (op sha spa tha tpa : Int) (h1 : 0 ≤ sha) (h2 : sha < 18446744073709551616) (h3 : 0 ≤ spa) (h4 : spa < 4294967296) (h5 : 0 ≤ tha) (h6 : tha < 18446744073709551616) (h7 : 0 ≤ tpa) (h8 : tpa < 4294967296) (ano : ¬ (sha ≤ 281474976710655 ∧ tha ≤ 281474976710655 ∧ 0 ≤ op ∧ op ≤ 65535)) (at_ by_ : Int) (st : St) :
    FnS cx 7 [.agg [.int .u64 d, .int .u64 sr, .bool true, .int .i64 tag, .int .i64 ty], .agg [.int .i64 op, .int .u64 sha, .int .u32 spa, .int .u64 tha, .int .u32 tpa], .int .i64 at_, .int .u8 by_] st (.bool true) st := by
  refine goP Try.func7 rfl rfl rfl rfl ?_ ?_
  · rfl
  intro t ht
  have a0 : tget t 0 = .agg [.int .u64 d, .int .u64 sr, .bool true, .int .i64 tag, .int .i64 ty] := ht 0 _ rfl
  have a1 : tget t 1 = .agg [.int .i64 op, .int .u64 sha, .int .u32 spa, .int .u64 tha, .int .u32 tpa] := ht 1 _ rfl
  have a2 : tget t 2 = .int .i64 at_ := ht 2 _ rfl
  have a3 : tget t 3 = .int .u8 by_ := ht 3 _ rfl
  clear ht
  have ex := And.intro @a0 (And.intro @a1 (And.intro @a2 @a3))
  repeat' (first
   | (with_reducible refine isO ?_); first
     | refine mvA (h := ?_)
     | refine asA (h := ?_)
     | refine quA (h := ?_)
     | refine wnA (h := ?_)
     | refine caA (hc := (encTb _ _ _ _ _ hd hs hno)) (h := ?_)
     | refine caA (hc := (arp3b _ _ _ _ _ _ h1 h2 h3 h4 h5 h6 h7 h8 ano)) (h := ?_)
     | refine caA (hc := livesS _) (h := ?_)
   | (with_reducible refine isG ?_); first
     | refine stA (h := ?_)
     | refine srA (h := ?_)
     | refine swA (h := ?_)
     | refine s1A (h := ?_)
     | refine s0A (h := ?_)
     | refine sgA (h1 := fun _ => ?_) (h0 := fun _ => ?_)
     | refine sbA (h1 := fun _ => ?_) (h0 := fun _ => ?_)
   | (with_reducible refine isP ?_); first
     | refine dqA (h := ?_)
     | refine dnA (i := 17) (l := []) (h := ?_)
     | refine dnA (i := 19) (l := []) (h := ?_)
   | (with_reducible refine isC ?_); first
     | refine ctA (h := ?_)
     | refine cfA (h := ?_)
     | refine cdA (h1 := fun _ => ?_) (h0 := fun _ => ?_)
     | refine cbA (h1 := fun _ => ?_) (h0 := fun _ => ?_)
   | (with_reducible refine isR ?_); first
     | refine Ev.drawn (by decide +kernel) (l := [0, 1, 2, 3, 4, 5, 6, 7, 8, 9, 10, 11, 12, 13, 14, 15, 16, 17, 18, 19]) (by decide +kernel) ?_
   | with_reducible refine Ev.seq ?_
   | with_reducible refine Ev.ops ?_
   | with_reducible refine NxE ?_
   | with_reducible refine BxN ?_
   | with_reducible refine BxX ?_
   | with_reducible refine NxX ?_
   | with_reducible refine NxR ?_
   | with_reducible refine BxR ?_
   | with_reducible refine NxG ?_
   | with_reducible refine BxG ?_
   | with_reducible refine GxR ?_
   | with_reducible refine GxN ?_
   | with_reducible refine GxX ?_
   | with_reducible refine Ev.goto ?_
   | with_reducible refine Ev.block ?_
   | with_reducible refine Ev.skip ?_
   | with_reducible refine Ev.exit ?_
   | with_reducible refine Ev.ret ?_
   | with_reducible refine Ev.label ?_
   | with_reducible refine EvOps.nil ?_
   | with_reducible refine EvPlan.nil ?_
   | (with_reducible refine BxO ?_ ?_; · decide)
   )
  all_goals refine lfA (rl := [.tmp 8]) rfl (hv := by
      simp only [packV, strip, stripAgg, stripCell, List.map_cons, List.map_nil]
      first | done | rfl) (hp := (show pureV (.bool true) = true from rfl))
end Go.Proofs.Ytfjhanjpacghkaa.M
