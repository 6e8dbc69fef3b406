/- Comparisons. -/
import Derived.Test.YtklcmgodhpediaaGreatDoorExK7
import Derived.Test.YtklcmgodhpediaaGreatDoorExC1
set_option linter.unusedSimpArgs false
set_option linter.unusedVariables false
set_option maxRecDepth 100000
namespace Go.Proofs.YtklcmgodhpediaaGreatDoor.K
open Go Go.Vm Go.Proofs Go.Proofs.YtklcmgodhpediaaGreatDoor

theorem updK {H : List (Nat × Ob)} {n : Nat} {es es' : List (V × V)} {k : List UInt8} {v : V} (h : setMap (.str k) v es = some es') : mapUpdH cx ((n, .map es) :: H) 101 (.map n) (.str k) v = some ((n, .map es') :: H) := by
  simp only [mapUpdH, tyE, keyT, hgetM, hget, beq_self_eq_true, if_true, Option.bind_some, obMap, hset, h, Option.map_some]
theorem mapK : (∀ (H : List (Nat × Ob)) (n : Nat), mapUpdH cx ((n, .map []) :: H) 101 (.map n) (.str [61, 61]) (.int .i64 1) = some ((n, .map [(.str [61, 61], .int .i64 1)]) :: H)) ∧ (∀ (H : List (Nat × Ob)) (n : Nat), mapUpdH cx ((n, .map [(.str [61, 61], .int .i64 1)]) :: H) 101 (.map n) (.str [33, 61]) (.int .i64 2) = some ((n, .map [(.str [61, 61], .int .i64 1), (.str [33, 61], .int .i64 2)]) :: H)) ∧ (∀ (H : List (Nat × Ob)) (n : Nat), mapUpdH cx ((n, .map [(.str [61, 61], .int .i64 1), (.str [33, 61], .int .i64 2)]) :: H) 101 (.map n) (.str [60]) (.int .i64 3) = some ((n, .map [(.str [61, 61], .int .i64 1), (.str [33, 61], .int .i64 2), (.str [60], .int .i64 3)]) :: H)) ∧ (∀ (H : List (Nat × Ob)) (n : Nat), mapUpdH cx ((n, .map [(.str [61, 61], .int .i64 1), (.str [33, 61], .int .i64 2), (.str [60], .int .i64 3)]) :: H) 101 (.map n) (.str [60, 61]) (.int .i64 4) = some ((n, .map [(.str [61, 61], .int .i64 1), (.str [33, 61], .int .i64 2), (.str [60], .int .i64 3), (.str [60, 61], .int .i64 4)]) :: H)) ∧ (∀ (H : List (Nat × Ob)) (n : Nat), mapUpdH cx ((n, .map [(.str [61, 61], .int .i64 1), (.str [33, 61], .int .i64 2), (.str [60], .int .i64 3), (.str [60, 61], .int .i64 4)]) :: H) 101 (.map n) (.str [62]) (.int .i64 5) = some ((n, .map [(.str [61, 61], .int .i64 1), (.str [33, 61], .int .i64 2), (.str [60], .int .i64 3), (.str [60, 61], .int .i64 4), (.str [62], .int .i64 5)]) :: H)) ∧ (∀ (H : List (Nat × Ob)) (n : Nat), mapUpdH cx ((n, .map [(.str [61, 61], .int .i64 1), (.str [33, 61], .int .i64 2), (.str [60], .int .i64 3), (.str [60, 61], .int .i64 4), (.str [62], .int .i64 5)]) :: H) 101 (.map n) (.str [62, 61]) (.int .i64 6) = some ((n, .map [(.str [61, 61], .int .i64 1), (.str [33, 61], .int .i64 2), (.str [60], .int .i64 3), (.str [60, 61], .int .i64 4), (.str [62], .int .i64 5), (.str [62, 61], .int .i64 6)]) :: H)) := by
  refine ⟨fun _ _ => updK (by rfl), fun _ _ => updK (by rfl), fun _ _ => updK (by rfl), fun _ _ => updK (by rfl), fun _ _ => updK (by rfl), fun _ _ => updK (by rfl)⟩
theorem lowOps {n : Nat} : lowO n (.map opsM) := by
  intro p hp
  simp only [opsM, List.mem_cons, List.not_mem_nil, or_false] at hp
  rcases hp with rfl | rfl | rfl | rfl | rfl | rfl <;> exact ⟨rfl, rfl⟩
theorem lkOps {tx : List UInt8} {o : Int} (h : findV (.str tx) opsM = some (some (.int .i64 o))) : ∀ (H : List (Nat × Ob)) (b : Nat), lookupV cx ((b, .map opsM) :: H) 101 (.map b) (.str tx) false = some (.int .i64 o) := by
  intro H b
  have hz : zeroV cx 3 = some (.int .i64 0) := by rfl
  simp only [lookupV, tyE, keyT, hz, hgetM, hget, beq_self_eq_true, if_true, Option.bind_some, obMap, h, Bool.false_eq_true, if_false]
theorem opsK {H : List (Nat × Ob)} {n : Nat} : FnS cx 64 [] ⟨H, n⟩ (.map n) ⟨(n, .map opsM) :: H, n + 1⟩ := by
  refine goS Tryz.func64 rfl rfl rfl rfl ?_
  intro t ht
  clear ht
  have ex := And.intro @hpB (And.intro @hpK (And.intro @zvE @mapK))
  repeat' (first
   | (with_reducible refine isO ?_); first | refine mvA (h := ?_) | refine asA (h := ?_) | refine quA (h := ?_) | refine wnA (h := ?_)
   | (with_reducible refine isC ?_); first | refine ctA (h := ?_) | refine cfA (h := ?_) | refine cdA (h1 := fun _ => ?_) (h0 := fun _ => ?_) | refine cbA (h1 := fun _ => ?_) (h0 := fun _ => ?_)
   | with_reducible first | refine Ev.seq ?_ | refine Ev.ops ?_ | refine NxE ?_ | refine BxN ?_ | refine BxX ?_ | refine NxX ?_ | refine NxR ?_ | refine BxR ?_ | refine Ev.block ?_ | refine Ev.skip ?_ | refine Ev.exit ?_ | refine Ev.ret ?_ | refine EvOps.nil ?_ | refine EvPlan.nil ?_
   | (with_reducible refine BxO ?_ ?_; · decide)
   )
  refine lsA (rl := [.tmp 0]) rfl (hv := by
      simp only [leaveV, packV, strip, stripAgg, stripCell, List.map_cons, List.map_nil, show cx.grow 64 = false from rfl, show cx.keep 64 = true from rfl, show cx.frz 64 = false from rfl, if_false, if_true, Bool.false_eq_true]
      try simp (disch := omega) only [hdrop_ge, hdrop_hset, show hdrop n H = H from hw, ite_self, List.take_length]
      first | done | rfl)

def KP (f o d : Int) (l l' : List L.Tok) (e : E) : Prop := ∀ (H : List (Nat × Ob)) (n b : Nat), hget H b = some (.cells (rdC (l) (d))) → Low n H → FnS cx 159 [.ptr b 0, .int .i64 f, .int .i64 o] ⟨H, n⟩ e.c ⟨hset H b (.cells (rdC (l') (d))), n⟩
theorem cmpG {H : List (Nat × Ob)} {n b : Nat} {tx : List UInt8} {nu a f o : Int} {d : Int} {l l' : List L.Tok} {e : E} (hfo : findV (.str tx) opsM = some (some (.int .i64 o))) (ho : 2 < o) (hb : hget H b = some (.cells (rdC (⟨5, tx, nu, a⟩ :: l) (d)))) (hl : Low n H) (hp : KP f o d l l' e) (hz : e.z = false) :
    FnS cx 107 [.ptr b 0, .int .i64 f] ⟨H, n⟩ e.c ⟨hset H b (.cells (rdC (l') (d))), n + 1 + 1 + 1 + 1 + 1 + 1⟩ := by
  have hbn := hl.lt hb
  have hw := hl.wn
  have hbb : ∀ x, hget (hset H b x) b = some x := fun x => by rw [hpK.2.1, hb]; rfl
  have hlk := lkOps hfo
  have e0 : decide (o = 0) = false := by simp; omega
  have e1 : decide (o > 2) = true := by simp; omega
  have hnx : FnS cx 103 [.ptr b 0] ⟨(n + 1 + 1, .cells [.int .i64 0, .int .i64 0, .int .i64 0, .int .u64 0, .int .u64 0, .sl .full []]) :: (n + 1, .cells [.int .i64 f]) :: (n, .cells [.ptr b 0]) :: H, n + 1 + 1 + 1⟩ (.agg [.int .i64 5, .str tx, .int .u64 nu, .int .i64 a]) ⟨(n + 1 + 1, .cells [.int .i64 0, .int .i64 0, .int .i64 0, .int .u64 0, .int .u64 0, .sl .full []]) :: (n + 1, .cells [.int .i64 f]) :: (n, .cells [.ptr b 0]) :: hset H b (.cells (rdC (l) (d))), n + 1 + 1 + 1⟩ := by
    have h := nextL (H := ((n + 1 + 1, .cells [.int .i64 0, .int .i64 0, .int .i64 0, .int .u64 0, .int .u64 0, .sl .full []]) :: (n + 1, .cells [.int .i64 f]) :: (n, .cells [.ptr b 0]) :: H)) (n := (n + 1 + 1 + 1)) (b := b) (k := 5) (tx := tx) (nu := nu) (a := a) (l := l) (d := d) (by simp (disch := omega) only [hpK, hb, hbb]; first | done | fail) ((((hl.le (by omega)).cons (by omega) (by simp only [lowO, lowL, lowV, Bool.and_true, Bool.and_self, decide_eq_true_eq]; omega)).cons (by omega) (by rfl)).cons (by omega) (by rfl)) (by decide)
    try simp (disch := omega) only [hpK] at h
    exact h
  have hct : FnS cx 159 [.ptr b 0, .int .i64 f, .int .i64 o] ⟨(n + 1 + 1 + 1 + 1 + 1, .map opsM) :: (n + 1 + 1 + 1 + 1, .cells [.int .i64 o]) :: (n + 1 + 1 + 1, .cells [.int .i64 5, .str tx, .int .u64 nu, .int .i64 a]) :: (n + 1 + 1, .cells [.int .i64 0, .int .i64 0, .int .i64 0, .int .u64 0, .int .u64 0, .sl .full []]) :: (n + 1, .cells [.int .i64 f]) :: (n, .cells [.ptr b 0]) :: hset H b (.cells (rdC (l) (d))), n + 1 + 1 + 1 + 1 + 1 + 1⟩ e.c ⟨(n + 1 + 1 + 1 + 1 + 1, .map opsM) :: (n + 1 + 1 + 1 + 1, .cells [.int .i64 o]) :: (n + 1 + 1 + 1, .cells [.int .i64 5, .str tx, .int .u64 nu, .int .i64 a]) :: (n + 1 + 1, .cells [.int .i64 0, .int .i64 0, .int .i64 0, .int .u64 0, .int .u64 0, .sl .full []]) :: (n + 1, .cells [.int .i64 f]) :: (n, .cells [.ptr b 0]) :: hset H b (.cells (rdC (l') (d))), n + 1 + 1 + 1 + 1 + 1 + 1⟩ := by
    have h := hp ((n + 1 + 1 + 1 + 1 + 1, .map opsM) :: (n + 1 + 1 + 1 + 1, .cells [.int .i64 o]) :: (n + 1 + 1 + 1, .cells [.int .i64 5, .str tx, .int .u64 nu, .int .i64 a]) :: (n + 1 + 1, .cells [.int .i64 0, .int .i64 0, .int .i64 0, .int .u64 0, .int .u64 0, .sl .full []]) :: (n + 1, .cells [.int .i64 f]) :: (n, .cells [.ptr b 0]) :: hset H b (.cells (rdC (l) (d)))) (n + 1 + 1 + 1 + 1 + 1 + 1) b (by simp (disch := omega) only [hpK, hb, hbb]; first | done | fail) ((((((((hl.set lowRd).le (by omega)).cons (by omega) (by simp only [lowO, lowL, lowV, Bool.and_true, Bool.and_self, decide_eq_true_eq]; omega)).cons (by omega) (by rfl)).cons (by omega) (by rfl)).cons (by omega) (by rfl)).cons (by omega) (by rfl)).cons (by omega) lowOps)
    try simp (disch := omega) only [hpK] at h
    exact h
  obtain ⟨k, f', o', v, m, z, ps⟩ := e
  have hz' : z = false := hz
  subst hz'
  have hec : (E.mk k f' o' v m false ps).c = .agg [.int .i64 k, .int .i64 f', .int .i64 o', .int .u64 v, .int .u64 m, .sl .none (E.cs ps)] := rfl
  rw [hec] at hct ⊢
  refine goS Tryz.func107 rfl rfl rfl rfl ?_
  intro t ht
  have a0 : tget t 0 = .ptr b 0 := ht 0 _ rfl
  have a1 : tget t 1 = .int .i64 f := ht 1 _ rfl
  clear ht
  have ex := And.intro @a0 (And.intro @a1 (And.intro @hpB (And.intro @hpK (And.intro @zvE (And.intro @hlk (And.intro @e0 @e1))))))
  repeat' (first
   | (with_reducible refine isO ?_); first | refine mvA (h := ?_) | refine asA (h := ?_) | refine quA (h := ?_) | refine wnA (h := ?_) | refine caA (hc := hnx) (h := ?_) | refine caA (hc := hct) (h := ?_)
   | (with_reducible refine isG ?_); first | refine stA (h := ?_) | refine srA (h := ?_) | refine swA (h := ?_) | refine s1A (h := ?_) | refine s0A (h := ?_) | refine sgA (h1 := fun _ => ?_) (h0 := fun _ => ?_) | refine sbA (h1 := fun _ => ?_) (h0 := fun _ => ?_)
   | (with_reducible refine isP ?_); first | refine dqA (h := ?_) | refine dcA (i := 0) (l := [2]) (hc := opsK) (h := ?_) | refine dnA (i := 4) (l := []) (h := ?_) | refine dnA (i := 8) (l := []) (h := ?_)
   | (with_reducible refine isC ?_); first | refine ctA (h := ?_) | refine cfA (h := ?_) | refine cdA (h1 := fun _ => ?_) (h0 := fun _ => ?_) | refine cbA (h1 := fun _ => ?_) (h0 := fun _ => ?_)
   | (with_reducible refine isR ?_); first
     | refine Ev.drawn (by decide +kernel) (l := [1, 2, 0, 3, 4]) (by decide +kernel) ?_
     | refine Ev.drawn (by decide +kernel) (l := [0, 1, 2, 3, 4, 5, 6, 7, 8]) (by decide +kernel) ?_
   | with_reducible first | refine Ev.seq ?_ | refine Ev.ops ?_ | refine NxE ?_ | refine BxN ?_ | refine BxX ?_ | refine NxX ?_ | refine NxR ?_ | refine BxR ?_ | refine Ev.block ?_ | refine Ev.skip ?_ | refine Ev.exit ?_ | refine Ev.ret ?_ | refine EvOps.nil ?_ | refine EvPlan.nil ?_
   | (with_reducible refine BxO ?_ ?_; · decide)
   )
  refine lsA (rl := [.cell 4 25]) rfl (hv := by
      simp only [leaveV, packV, strip, stripAgg, stripCell, List.map_cons, List.map_nil, show cx.grow 107 = false from rfl, show cx.keep 107 = false from rfl, show cx.frz 107 = false from rfl, if_false, if_true, Bool.false_eq_true]
      try simp (disch := omega) only [hdrop_ge, hdrop_hset, hw, ite_self, List.take_length]
      first | done | rfl)
theorem cmpL {H : List (Nat × Ob)} {n b : Nat} {tx : List UInt8} {nu a f o : Int} {d : Int} {k1 nu1 a1 : Int} {tx1 : List UInt8} {l l' : List L.Tok} {e : E} (hfo : findV (.str tx) opsM = some (some (.int .i64 o))) (ho : 0 < o ∧ o ≤ 2) (hk : ¬ (k1 = 5 ∧ tx1 = [123])) (hb : hget H b = some (.cells (rdC (⟨5, tx, nu, a⟩ :: ⟨k1, tx1, nu1, a1⟩ :: l) (d)))) (hl : Low n H) (hp : KP f o d (⟨k1, tx1, nu1, a1⟩ :: l) l' e) (hz : e.z = false) :
    FnS cx 107 [.ptr b 0, .int .i64 f] ⟨H, n⟩ e.c ⟨hset H b (.cells (rdC (l') (d))), n + 1 + 1 + 1 + 1 + 1 + 1⟩ := by
  have hbn := hl.lt hb
  have hw := hl.wn
  have hbb : ∀ x, hget (hset H b x) b = some x := fun x => by rw [hpK.2.1, hb]; rfl
  have hlk := lkOps hfo
  have e0 : decide (o = 0) = false := by simp; omega
  have e1 : decide (o > 2) = false := by simp; omega
  have hnx : FnS cx 103 [.ptr b 0] ⟨(n + 1 + 1, .cells [.int .i64 0, .int .i64 0, .int .i64 0, .int .u64 0, .int .u64 0, .sl .full []]) :: (n + 1, .cells [.int .i64 f]) :: (n, .cells [.ptr b 0]) :: H, n + 1 + 1 + 1⟩ (.agg [.int .i64 5, .str tx, .int .u64 nu, .int .i64 a]) ⟨(n + 1 + 1, .cells [.int .i64 0, .int .i64 0, .int .i64 0, .int .u64 0, .int .u64 0, .sl .full []]) :: (n + 1, .cells [.int .i64 f]) :: (n, .cells [.ptr b 0]) :: hset H b (.cells (rdC (⟨k1, tx1, nu1, a1⟩ :: l) (d))), n + 1 + 1 + 1⟩ := by
    have h := nextL (H := ((n + 1 + 1, .cells [.int .i64 0, .int .i64 0, .int .i64 0, .int .u64 0, .int .u64 0, .sl .full []]) :: (n + 1, .cells [.int .i64 f]) :: (n, .cells [.ptr b 0]) :: H)) (n := (n + 1 + 1 + 1)) (b := b) (k := 5) (tx := tx) (nu := nu) (a := a) (l := ⟨k1, tx1, nu1, a1⟩ :: l) (d := d) (by simp (disch := omega) only [hpK, hb, hbb]; first | done | fail) ((((hl.le (by omega)).cons (by omega) (by simp only [lowO, lowL, lowV, Bool.and_true, Bool.and_self, decide_eq_true_eq]; omega)).cons (by omega) (by rfl)).cons (by omega) (by rfl)) (by decide)
    try simp (disch := omega) only [hpK] at h
    exact h
  have hno : FnS cx 83 [.ptr b 0, .str [123]] ⟨(n + 1 + 1 + 1 + 1 + 1, .map opsM) :: (n + 1 + 1 + 1 + 1, .cells [.int .i64 o]) :: (n + 1 + 1 + 1, .cells [.int .i64 5, .str tx, .int .u64 nu, .int .i64 a]) :: (n + 1 + 1, .cells [.int .i64 0, .int .i64 0, .int .i64 0, .int .u64 0, .int .u64 0, .sl .full []]) :: (n + 1, .cells [.int .i64 f]) :: (n, .cells [.ptr b 0]) :: hset H b (.cells (rdC (⟨k1, tx1, nu1, a1⟩ :: l) (d))), n + 1 + 1 + 1 + 1 + 1 + 1⟩ (.bool false) ⟨(n + 1 + 1 + 1 + 1 + 1, .map opsM) :: (n + 1 + 1 + 1 + 1, .cells [.int .i64 o]) :: (n + 1 + 1 + 1, .cells [.int .i64 5, .str tx, .int .u64 nu, .int .i64 a]) :: (n + 1 + 1, .cells [.int .i64 0, .int .i64 0, .int .i64 0, .int .u64 0, .int .u64 0, .sl .full []]) :: (n + 1, .cells [.int .i64 f]) :: (n, .cells [.ptr b 0]) :: hset H b (.cells (rdC (⟨k1, tx1, nu1, a1⟩ :: l) (d))), n + 1 + 1 + 1 + 1 + 1 + 1⟩ := by
    have h := opN (H := ((n + 1 + 1 + 1 + 1 + 1, .map opsM) :: (n + 1 + 1 + 1 + 1, .cells [.int .i64 o]) :: (n + 1 + 1 + 1, .cells [.int .i64 5, .str tx, .int .u64 nu, .int .i64 a]) :: (n + 1 + 1, .cells [.int .i64 0, .int .i64 0, .int .i64 0, .int .u64 0, .int .u64 0, .sl .full []]) :: (n + 1, .cells [.int .i64 f]) :: (n, .cells [.ptr b 0]) :: hset H b (.cells (rdC (⟨k1, tx1, nu1, a1⟩ :: l) (d))))) (n := (n + 1 + 1 + 1 + 1 + 1 + 1)) (b := b) (k := k1) (tx := tx1) (nu := nu1) (a := a1) (l := l) (d := d) (tx' := [123]) (by simp (disch := omega) only [hpK, hb, hbb]; first | done | fail) ((((((((hl.set lowRd).le (by omega)).cons (by omega) (by simp only [lowO, lowL, lowV, Bool.and_true, Bool.and_self, decide_eq_true_eq]; omega)).cons (by omega) (by rfl)).cons (by omega) (by rfl)).cons (by omega) (by rfl)).cons (by omega) (by rfl)).cons (by omega) lowOps) hk
    try simp (disch := omega) only [hpK] at h
    exact h
  have hct : FnS cx 159 [.ptr b 0, .int .i64 f, .int .i64 o] ⟨(n + 1 + 1 + 1 + 1 + 1, .map opsM) :: (n + 1 + 1 + 1 + 1, .cells [.int .i64 o]) :: (n + 1 + 1 + 1, .cells [.int .i64 5, .str tx, .int .u64 nu, .int .i64 a]) :: (n + 1 + 1, .cells [.int .i64 0, .int .i64 0, .int .i64 0, .int .u64 0, .int .u64 0, .sl .full []]) :: (n + 1, .cells [.int .i64 f]) :: (n, .cells [.ptr b 0]) :: hset H b (.cells (rdC (⟨k1, tx1, nu1, a1⟩ :: l) (d))), n + 1 + 1 + 1 + 1 + 1 + 1⟩ e.c ⟨(n + 1 + 1 + 1 + 1 + 1, .map opsM) :: (n + 1 + 1 + 1 + 1, .cells [.int .i64 o]) :: (n + 1 + 1 + 1, .cells [.int .i64 5, .str tx, .int .u64 nu, .int .i64 a]) :: (n + 1 + 1, .cells [.int .i64 0, .int .i64 0, .int .i64 0, .int .u64 0, .int .u64 0, .sl .full []]) :: (n + 1, .cells [.int .i64 f]) :: (n, .cells [.ptr b 0]) :: hset H b (.cells (rdC (l') (d))), n + 1 + 1 + 1 + 1 + 1 + 1⟩ := by
    have h := hp ((n + 1 + 1 + 1 + 1 + 1, .map opsM) :: (n + 1 + 1 + 1 + 1, .cells [.int .i64 o]) :: (n + 1 + 1 + 1, .cells [.int .i64 5, .str tx, .int .u64 nu, .int .i64 a]) :: (n + 1 + 1, .cells [.int .i64 0, .int .i64 0, .int .i64 0, .int .u64 0, .int .u64 0, .sl .full []]) :: (n + 1, .cells [.int .i64 f]) :: (n, .cells [.ptr b 0]) :: hset H b (.cells (rdC (⟨k1, tx1, nu1, a1⟩ :: l) (d)))) (n + 1 + 1 + 1 + 1 + 1 + 1) b (by simp (disch := omega) only [hpK, hb, hbb]; first | done | fail) ((((((((hl.set lowRd).le (by omega)).cons (by omega) (by simp only [lowO, lowL, lowV, Bool.and_true, Bool.and_self, decide_eq_true_eq]; omega)).cons (by omega) (by rfl)).cons (by omega) (by rfl)).cons (by omega) (by rfl)).cons (by omega) (by rfl)).cons (by omega) lowOps)
    try simp (disch := omega) only [hpK] at h
    exact h
  obtain ⟨k, f', o', v, m, z, ps⟩ := e
  have hz' : z = false := hz
  subst hz'
  have hec : (E.mk k f' o' v m false ps).c = .agg [.int .i64 k, .int .i64 f', .int .i64 o', .int .u64 v, .int .u64 m, .sl .none (E.cs ps)] := rfl
  rw [hec] at hct ⊢
  refine goS Tryz.func107 rfl rfl rfl rfl ?_
  intro t ht
  have a0 : tget t 0 = .ptr b 0 := ht 0 _ rfl
  have a1 : tget t 1 = .int .i64 f := ht 1 _ rfl
  clear ht
  have ex := And.intro @a0 (And.intro @a1 (And.intro @hpB (And.intro @hpK (And.intro @zvE (And.intro @hlk (And.intro @e0 @e1))))))
  repeat' (first
   | (with_reducible refine isO ?_); first | refine mvA (h := ?_) | refine asA (h := ?_) | refine quA (h := ?_) | refine wnA (h := ?_) | refine caA (hc := hnx) (h := ?_) | refine caA (hc := hno) (h := ?_) | refine caA (hc := hct) (h := ?_)
   | (with_reducible refine isG ?_); first | refine stA (h := ?_) | refine srA (h := ?_) | refine swA (h := ?_) | refine s1A (h := ?_) | refine s0A (h := ?_) | refine sgA (h1 := fun _ => ?_) (h0 := fun _ => ?_) | refine sbA (h1 := fun _ => ?_) (h0 := fun _ => ?_)
   | (with_reducible refine isP ?_); first | refine dqA (h := ?_) | refine dcA (i := 0) (l := [2]) (hc := opsK) (h := ?_) | refine dnA (i := 4) (l := []) (h := ?_) | refine dnA (i := 8) (l := []) (h := ?_)
   | (with_reducible refine isC ?_); first | refine ctA (h := ?_) | refine cfA (h := ?_) | refine cdA (h1 := fun _ => ?_) (h0 := fun _ => ?_) | refine cbA (h1 := fun _ => ?_) (h0 := fun _ => ?_)
   | (with_reducible refine isR ?_); first
     | refine Ev.drawn (by decide +kernel) (l := [1, 2, 0, 3, 4]) (by decide +kernel) ?_
     | refine Ev.drawn (by decide +kernel) (l := [0, 1, 2, 3, 4, 5, 6, 7, 8]) (by decide +kernel) ?_
   | with_reducible first | refine Ev.seq ?_ | refine Ev.ops ?_ | refine NxE ?_ | refine BxN ?_ | refine BxX ?_ | refine NxX ?_ | refine NxR ?_ | refine BxR ?_ | refine Ev.block ?_ | refine Ev.skip ?_ | refine Ev.exit ?_ | refine Ev.ret ?_ | refine EvOps.nil ?_ | refine EvPlan.nil ?_
   | (with_reducible refine BxO ?_ ?_; · decide)
   )
  refine lsA (rl := [.cell 4 25]) rfl (hv := by
      simp only [leaveV, packV, strip, stripAgg, stripCell, List.map_cons, List.map_nil, show cx.grow 107 = false from rfl, show cx.keep 107 = false from rfl, show cx.frz 107 = false from rfl, if_false, if_true, Bool.false_eq_true]
      try simp (disch := omega) only [hdrop_ge, hdrop_hset, hw, ite_self, List.take_length]
      first | done | rfl)

end Go.Proofs.YtklcmgodhpediaaGreatDoor.K
