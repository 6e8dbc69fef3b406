/- Comparisons. -/
import Derived.Test.YtklcmgodhpediaaGreatDoorExK7
import Derived.Test.YtklcmgodhpediaaGreatDoorExC1
set_option linter.unusedSimpArgs false
set_option linter.unusedVariables false
set_option maxRecDepth 100000
namespace Go.Proofs.YtklcmgodhpediaaGreatDoor.K
open Go Go.Vm Go.Proofs Go.Proofs.YtklcmgodhpediaaGreatDoor

theorem updK {H : List (Nat × Ob)} {n : Nat} {es es' : List (V × V)} {k : List UInt8} {v : V} (h : setMap (.str k) v es = some es') : mapUpdH cx ((n, .map es) :: H) 101 (.map n) (.str k) v = some ((n, .map es') :: H) := by
  simp only [mapUpdH, tyE, keyT, hgetM, hget, beq_self_eq_true, if_true, Option.bind_some, obMap, hset, h, Option.map_some]
theorem mapK : (∀ (H : List (Nat × Ob)) (n : Nat), mapUpdH cx ((n, .map []) :: H) 101 (.map n) (.str [61, 61]) (.int .i64 1) = some ((n, .map [(.str [61, 61], .int .i64 1)]) :: H)) ∧ (∀ (H : List (Nat × Ob)) (n : Nat), mapUpdH cx ((n, .map [(.str [61, 61], .int .i64 1)]) :: H) 101 (.map n) (.str [33, 61]) (.int .i64 2) = some ((n, .map [(.str [61, 61], .int .i64 1), (.str [33, 61], .int .i64 2)]) :: H)) ∧ (∀ (H : List (Nat × Ob)) (n : Nat), mapUpdH cx ((n, .map [(.str [61, 61], .int .i64 1), (.str [33, 61], .int .i64 2)]) :: H) 101 (.map n) (.str [60]) (.int .i64 3) = some ((n, .map [(.str [61, 61], .int .i64 1), (.str [33, 61], .int .i64 2), (.str [60], .int .i64 3)]) :: H)) ∧ (∀ (H : List (Nat × Ob)) (n : Nat), mapUpdH cx ((n, .map [(.str [61, 61], .int .i64 1), (.str [33, 61], .int .i64 2), (.str [60], .int .i64 3)]) :: H) 101 (.map n) (.str [60, 61]) (.int .i64 4) = some ((n, .map [(.str [61, 61], .int .i64 1), (.str [33, 61], .int .i64 2), (.str [60], .int .i64 3), (.str [60, 61], .int .i64 4)]) :: H)) ∧ (∀ (H : List (Nat × Ob)) (n : Nat), mapUpdH cx ((n, .map [(.str [61, 61], .int .i64 1), (.str [33, 61], .int .i64 2), (.str [60], .int .i64 3), (.str [60, 61], .int .i64 4)]) :: H) 101 (.map n) (.str [62]) (.int .i64 5) = some ((n, .map [(.str [61, 61], .int .i64 1), (.str [33, 61], .int .i64 2), (.str [60], .int .i64 3), (.str [60, 61], .int .i64 4), (.str [62], .int .i64 5)]) :: H)) ∧ (∀ (H : List (Nat × Ob)) (n : Nat), mapUpdH cx ((n, .map [(.str [61, 61], .int .i64 1), (.str [33, 61], .int .i64 2), (.str [60], .int .i64 3), (.str [60, 61], .int .i64 4), (.str [62], .int .i64 5)]) :: H) 101 (.map n) (.str [62, 61]) (.int .i64 6) = some ((n, .map [(.str [61, 61], .int .i64 1), (.str [33, 61], .int .i64 2), (.str [60], .int .i64 3), (.str [60, 61], .int .i64 4), (.str [62], .int .i64 5), (.str [62, 61], .int .i64 6)]) :: H)) := by
  refine ⟨fun _ _ => updK (by rfl), fun _ _ => updK (by rfl), fun _ _ => updK (by rfl), fun _ _ => updK (by rfl), fun _ _ => updK (by rfl), fun _ _ => updK (by rfl)⟩
theorem lowOps {n : Nat} : lowO n (.map opsM) := by
  intro p hp
  simp only [opsM, List.mem_cons, List.not_mem_nil, or_false] at hp
  rcases hp with rfl | rfl | rfl | rfl | rfl | rfl <;> exact ⟨rfl, rfl⟩
theorem lkOps {tx : List UInt8} {o : Int} (h : findV (.str tx) opsM = some (some (.int .i64 o))) : ∀ (H : List (Nat × Ob)) (b : Nat), lookupV cx ((b, .map opsM) :: H) 101 (.map b) (.str tx) false = some (.int .i64 o) := by
  intro H b
  have hz : zeroV cx 3 = some (.int .i64 0) := by rfl
  simp only [lookupV, tyE, keyT, hz, hgetM, hget, beq_self_eq_true, if_true, Option.bind_some, obMap, h, Bool.false_eq_true, if_false]
theorem opsK {H : List (Nat × Ob)} {n : Nat} : FnS cx 64 [] ⟨H, n⟩ (.map n) ⟨(n, .map opsM) :: H, n + 1⟩ := by
  refine goS Tryz.func64 rfl rfl rfl rfl ?_
  intro t ht
  clear ht
  have ex := And.intro @hpB (And.intro @hpK (And.intro @zvE @mapK))
  repeat' (first
   | (with_reducible refine isO ?_); first
     | refine mvA (h := ?_)
     | refine asA (h := ?_)
     | refine quA (h := ?_)
     | refine wnA (h := ?_)
   | (with_reducible refine isC ?_); first
     | refine ctA (h := ?_)
     | refine cfA (h := ?_)
     | refine cdA (h1 := fun _ => ?_) (h0 := fun _ => ?_)
     | refine cbA (h1 := fun _ => ?_) (h0 := fun _ => ?_)
   | with_reducible refine Ev.seq ?_
   | with_reducible refine Ev.ops ?_
   | with_reducible refine NxE ?_
   | with_reducible refine BxN ?_
   | with_reducible refine BxX ?_
   | with_reducible refine NxX ?_
   | with_reducible refine NxR ?_
   | with_reducible refine BxR ?_
   | with_reducible refine NxG ?_
   | with_reducible refine BxG ?_
   | with_reducible refine GxR ?_
   | with_reducible refine GxN ?_
   | with_reducible refine GxX ?_
   | with_reducible refine Ev.goto ?_
   | with_reducible refine Ev.block ?_
   | with_reducible refine Ev.skip ?_
   | with_reducible refine Ev.exit ?_
   | with_reducible refine Ev.ret ?_
   | with_reducible refine Ev.label ?_
   | with_reducible refine EvOps.nil ?_
   | with_reducible refine EvPlan.nil ?_
   | (with_reducible refine BxO ?_ ?_; · decide)
   )
  refine lsA (rl := [.tmp 0]) rfl (hv := by
      simp only [leaveV, packV, strip, stripAgg, stripCell, List.map_cons, List.map_nil, show cx.grow 64 = false from rfl, show cx.keep 64 = true from rfl, show cx.frz 64 = false from rfl, if_false, if_true, Bool.false_eq_true]
      try simp (disch := omega) only [hdrop_ge, hdrop_hset, show hdrop n H = H from hw, ite_self, List.take_length]
      first | done | rfl)

/-- What a constant is read to. -/
def KP (f o d : Int) (l l' : List L.Tok) (e : E) : Prop := ∀ (H : List (Nat × Ob)) (n b : Nat), hget H b = some (.cells (rdC (l) (d))) → Low n H → FnS cx 159 [.ptr b 0, .int .i64 f, .int .i64 o] ⟨H, n⟩ e.c ⟨hset H b (.cells (rdC (l') (d))), n⟩
theorem cmpL {H : List (Nat × Ob)} {n b : Nat} {tx : List UInt8} {nu a f o : Int} {d : Int} {k1 nu1 a1 : Int} {tx1 : List UInt8} {l l' : List L.Tok} {e : E} (hfo : findV (.str tx) opsM = some (some (.int .i64 o))) (ho : 0 < o ∧ o ≤ 2) (hk : ¬ (k1 = 5 ∧ tx1 = [123])) (hb : hget H b = some (.cells (rdC (⟨5, tx, nu, a⟩ :: ⟨k1, tx1, nu1, a1⟩ :: l) (d)))) (hl : Low n H) (hp : KP f o d (⟨k1, tx1, nu1, a1⟩ :: l) l' e) (hz : e.z = false) :
    FnS cx 107 [.ptr b 0, .int .i64 f] ⟨H, n⟩ e.c ⟨hset H b (.cells (rdC (l') (d))), n + 1 + 1 + 1 + 1 + 1 + 1⟩ := by
  have hbn := hl.lt hb
  have hw := hl.wn
  have hbb : ∀ x, hget (hset H b x) b = some x := fun x => by rw [hpK.2.1, hb]; rfl
  have hlk := lkOps hfo
  have e0 : decide (o = 0) = false := by simp; omega
  have e1 : decide (o > 2) = false := by simp; omega
  have hnx : FnS cx 103 [.ptr b 0] ⟨(n + 1 + 1, .cells [.int .i64 0, .int .i64 0, .int .i64 0, .int .u64 0, .int .u64 0, .sl .full []]) :: (n + 1, .cells [.int .i64 f]) :: (n, .cells [.ptr b 0]) :: H, n + 1 + 1 + 1⟩ (.agg [.int .i64 5, .str tx, .int .u64 nu, .int .i64 a]) ⟨(n + 1 + 1, .cells [.int .i64 0, .int .i64 0, .int .i64 0, .int .u64 0, .int .u64 0, .sl .full []]) :: (n + 1, .cells [.int .i64 f]) :: (n, .cells [.ptr b 0]) :: hset H b (.cells (rdC (⟨k1, tx1, nu1, a1⟩ :: l) (d))), n + 1 + 1 + 1⟩ := by
    have h := nextL (H := ((n + 1 + 1, .cells [.int .i64 0, .int .i64 0, .int .i64 0, .int .u64 0, .int .u64 0, .sl .full []]) :: (n + 1, .cells [.int .i64 f]) :: (n, .cells [.ptr b 0]) :: H)) (n := (n + 1 + 1 + 1)) (b := b) (k := 5) (tx := tx) (nu := nu) (a := a) (l := ⟨k1, tx1, nu1, a1⟩ :: l) (d := d) (by simp (disch := omega) only [hpK, hb, hbb]; first | done | fail) ((((hl.le (by omega)).cons (by omega) (by simp only [lowO, lowL, lowV, Bool.and_true, Bool.and_self, decide_eq_true_eq]; omega)).cons (by omega) (by rfl)).cons (by omega) (by rfl)) (by decide)
    try simp (disch := omega) only [hpK] at h
    exact h
  have hno : FnS cx 83 [.ptr b 0, .str [123]] ⟨(n + 1 + 1 + 1 + 1 + 1, .map opsM) :: (n + 1 + 1 + 1 + 1, .cells [.int .i64 o]) :: (n + 1 + 1 + 1, .cells [.int .i64 5, .str tx, .int .u64 nu, .int .i64 a]) :: (n + 1 + 1, .cells [.int .i64 0, .int .i64 0, .int .i64 0, .int .u64 0, .int .u64 0, .sl .full []]) :: (n + 1, .cells [.int .i64 f]) :: (n, .cells [.ptr b 0]) :: hset H b (.cells (rdC (⟨k1, tx1, nu1, a1⟩ :: l) (d))), n + 1 + 1 + 1 + 1 + 1 + 1⟩ (.bool false) ⟨(n + 1 + 1 + 1 + 1 + 1, .map opsM) :: (n + 1 + 1 + 1 + 1, .cells [.int .i64 o]) :: (n + 1 + 1 + 1, .cells [.int .i64 5, .str tx, .int .u64 nu, .int .i64 a]) :: (n + 1 + 1, .cells [.int .i64 0, .int .i64 0, .int .i64 0, .int .u64 0, .int .u64 0, .sl .full []]) :: (n + 1, .cells [.int .i64 f]) :: (n, .cells [.ptr b 0]) :: hset H b (.cells (rdC (⟨k1, tx1, nu1, a1⟩ :: l) (d))), n + 1 + 1 + 1 + 1 + 1 + 1⟩ := by
    have h := opN (H := ((n + 1 + 1 + 1 + 1 + 1, .map opsM) :: (n + 1 + 1 + 1 + 1, .cells [.int .i64 o]) :: (n + 1 + 1 + 1, .cells [.int .i64 5, .str tx, .int .u64 nu, .int .i64 a]) :: (n + 1 + 1, .cells [.int .i64 0, .int .i64 0, .int .i64 0, .int .u64 0, .int .u64 0, .sl .full []]) :: (n + 1, .cells [.int .i64 f]) :: (n, .cells [.ptr b 0]) :: hset H b (.cells (rdC (⟨k1, tx1, nu1, a1⟩ :: l) (d))))) (n := (n + 1 + 1 + 1 + 1 + 1 + 1)) (b := b) (k := k1) (tx := tx1) (nu := nu1) (a := a1) (l := l) (d := d) (tx' := [123]) (by simp (disch := omega) only [hpK, hb, hbb]; first | done | fail) ((((((((hl.set lowRd).le (by omega)).cons (by omega) (by simp only [lowO, lowL, lowV, Bool.and_true, Bool.and_self, decide_eq_true_eq]; omega)).cons (by omega) (by rfl)).cons (by omega) (by rfl)).cons (by omega) (by rfl)).cons (by omega) (by rfl)).cons (by omega) lowOps) hk
    try simp (disch := omega) only [hpK] at h
    exact h
  have hct : FnS cx 159 [.ptr b 0, .int .i64 f, .int .i64 o] ⟨(n + 1 + 1 + 1 + 1 + 1, .map opsM) :: (n + 1 + 1 + 1 + 1, .cells [.int .i64 o]) :: (n + 1 + 1 + 1, .cells [.int .i64 5, .str tx, .int .u64 nu, .int .i64 a]) :: (n + 1 + 1, .cells [.int .i64 0, .int .i64 0, .int .i64 0, .int .u64 0, .int .u64 0, .sl .full []]) :: (n + 1, .cells [.int .i64 f]) :: (n, .cells [.ptr b 0]) :: hset H b (.cells (rdC (⟨k1, tx1, nu1, a1⟩ :: l) (d))), n + 1 + 1 + 1 + 1 + 1 + 1⟩ e.c ⟨(n + 1 + 1 + 1 + 1 + 1, .map opsM) :: (n + 1 + 1 + 1 + 1, .cells [.int .i64 o]) :: (n + 1 + 1 + 1, .cells [.int .i64 5, .str tx, .int .u64 nu, .int .i64 a]) :: (n + 1 + 1, .cells [.int .i64 0, .int .i64 0, .int .i64 0, .int .u64 0, .int .u64 0, .sl .full []]) :: (n + 1, .cells [.int .i64 f]) :: (n, .cells [.ptr b 0]) :: hset H b (.cells (rdC (l') (d))), n + 1 + 1 + 1 + 1 + 1 + 1⟩ := by
    have h := hp ((n + 1 + 1 + 1 + 1 + 1, .map opsM) :: (n + 1 + 1 + 1 + 1, .cells [.int .i64 o]) :: (n + 1 + 1 + 1, .cells [.int .i64 5, .str tx, .int .u64 nu, .int .i64 a]) :: (n + 1 + 1, .cells [.int .i64 0, .int .i64 0, .int .i64 0, .int .u64 0, .int .u64 0, .sl .full []]) :: (n + 1, .cells [.int .i64 f]) :: (n, .cells [.ptr b 0]) :: hset H b (.cells (rdC (⟨k1, tx1, nu1, a1⟩ :: l) (d)))) (n + 1 + 1 + 1 + 1 + 1 + 1) b (by simp (disch := omega) only [hpK, hb, hbb]; first | done | fail) ((((((((hl.set lowRd).le (by omega)).cons (by omega) (by simp only [lowO, lowL, lowV, Bool.and_true, Bool.and_self, decide_eq_true_eq]; omega)).cons (by omega) (by rfl)).cons (by omega) (by rfl)).cons (by omega) (by rfl)).cons (by omega) (by rfl)).cons (by omega) lowOps)
    try simp (disch := omega) only [hpK] at h
    exact h
  obtain ⟨k, f', o', v, m, z, ps⟩ := e
  have hz' : z = false := hz
  subst hz'
  have hec : (E.mk k f' o' v m false ps).c = .agg [.int .i64 k, .int .i64 f', .int .i64 o', .int .u64 v, .int .u64 m, .sl .none (E.cs ps)] := rfl
  rw [hec] at hct ⊢
  refine goS Tryz.func107 rfl rfl rfl rfl ?_
  intro t ht
  have a0 : tget t 0 = .ptr b 0 := ht 0 _ rfl
  have a1 : tget t 1 = .int .i64 f := ht 1 _ rfl
  clear ht
  have ex := And.intro @a0 (And.intro @a1 (And.intro @hpB (And.intro @hpK (And.intro @zvE (And.intro @hlk (And.intro @e0 @e1))))))
  repeat' (first
   | (with_reducible refine isO ?_); first
     | refine mvA (h := ?_)
     | refine asA (h := ?_)
     | refine quA (h := ?_)
     | refine wnA (h := ?_)
     | refine caA (hc := hnx) (h := ?_)
     | refine caA (hc := hno) (h := ?_)
     | refine caA (hc := hct) (h := ?_)
   | (with_reducible refine isG ?_); first
     | refine stA (h := ?_)
     | refine srA (h := ?_)
     | refine swA (h := ?_)
     | refine s1A (h := ?_)
     | refine s0A (h := ?_)
     | refine sgA (h1 := fun _ => ?_) (h0 := fun _ => ?_)
     | refine sbA (h1 := fun _ => ?_) (h0 := fun _ => ?_)
   | (with_reducible refine isP ?_); first
     | refine dqA (h := ?_)
     | refine dcA (i := 0) (l := [2]) (hc := opsK) (h := ?_)
     | refine dnA (i := 4) (l := []) (h := ?_)
     | refine dnA (i := 8) (l := []) (h := ?_)
   | (with_reducible refine isC ?_); first
     | refine ctA (h := ?_)
     | refine cfA (h := ?_)
     | refine cdA (h1 := fun _ => ?_) (h0 := fun _ => ?_)
     | refine cbA (h1 := fun _ => ?_) (h0 := fun _ => ?_)
   | (with_reducible refine isR ?_); first
     | refine Ev.drawn (by decide +kernel) (l := [1, 2, 0, 3, 4]) (by decide +kernel) ?_
     | refine Ev.drawn (by decide +kernel) (l := [0, 1, 2, 3, 4, 5, 6, 7, 8]) (by decide +kernel) ?_
   | with_reducible refine Ev.seq ?_
   | with_reducible refine Ev.ops ?_
   | with_reducible refine NxE ?_
   | with_reducible refine BxN ?_
   | with_reducible refine BxX ?_
   | with_reducible refine NxX ?_
   | with_reducible refine NxR ?_
   | with_reducible refine BxR ?_
   | with_reducible refine NxG ?_
   | with_reducible refine BxG ?_
   | with_reducible refine GxR ?_
   | with_reducible refine GxN ?_
   | with_reducible refine GxX ?_
   | with_reducible refine Ev.goto ?_
   | with_reducible refine Ev.block ?_
   | with_reducible refine Ev.skip ?_
   | with_reducible refine Ev.exit ?_
   | with_reducible refine Ev.ret ?_
   | with_reducible refine Ev.label ?_
   | with_reducible refine EvOps.nil ?_
   | with_reducible refine EvPlan.nil ?_
   | (with_reducible refine BxO ?_ ?_; · decide)
   )
  refine lsA (rl := [.cell 4 25]) rfl (hv := by
      simp only [leaveV, packV, strip, stripAgg, stripCell, List.map_cons, List.map_nil, show cx.grow 107 = false from rfl, show cx.keep 107 = false from rfl, show cx.frz 107 = false from rfl, if_false, if_true, Bool.false_eq_true]
      try simp (disch := omega) only [hdrop_ge, hdrop_hset, hw, ite_self, List.take_length]
      first | done | rfl)

theorem capS {c1 c2 c3 b : Nat} {f o d : Int} {l l' : List L.Tok} {e : E} (hp : KP f o d l l' e) (hz : e.z = false) : PJ 160 [.ptr c1 0, .ptr c2 0, .ptr c3 0] b [(c1, .cells [.ptr b 0]), (c2, .cells [.int .i64 f]), (c3, .cells [.int .i64 o])] d l l' e := by
  intro H n hcap hb hl
  have h1 := hcap _ (List.mem_cons_self)
  have h2 := hcap _ (List.mem_cons_of_mem _ List.mem_cons_self)
  have h3 := hcap _ (List.mem_cons_of_mem _ (List.mem_cons_of_mem _ List.mem_cons_self))
  simp only at h1 h2 h3
  have n1 := hl.lt h1
  have n2 := hl.lt h2
  have n3 := hl.lt h3
  have hbn := hl.lt hb
  have hw := hl.wn
  clear hcap
  refine FnS.low (m := n + 1) ?_ (lowE _) (hl.set lowRd)
  have hct : FnS cx 159 [.ptr b 0, .int .i64 f, .int .i64 o] ⟨(n, .cells [.int .i64 0, .int .i64 0, .int .i64 0, .int .u64 0, .int .u64 0, .sl .full []]) :: H, n + 1⟩ e.c ⟨(n, .cells [.int .i64 0, .int .i64 0, .int .i64 0, .int .u64 0, .int .u64 0, .sl .full []]) :: hset H b (.cells (rdC (l') (d))), n + 1⟩ := by
    have h := hp ((n, .cells [.int .i64 0, .int .i64 0, .int .i64 0, .int .u64 0, .int .u64 0, .sl .full []]) :: H) (n + 1) b (by simp (disch := omega) only [hpK, hb]; first | done | fail) ((hl.le (by omega)).cons (by omega) (by rfl))
    try simp (disch := omega) only [hpK] at h
    exact h
  obtain ⟨k, f', o', v, m, z, ps⟩ := e
  have hz' : z = false := hz
  subst hz'
  have hec : (E.mk k f' o' v m false ps).c = .agg [.int .i64 k, .int .i64 f', .int .i64 o', .int .u64 v, .int .u64 m, .sl .none (E.cs ps)] := rfl
  rw [hec] at hct ⊢
  refine goS Tryz.func160 rfl rfl rfl rfl ?_
  intro t ht
  have a0 : tget t 0 = .ptr c1 0 := ht 0 _ rfl
  have a1 : tget t 1 = .ptr c2 0 := ht 1 _ rfl
  have a2 : tget t 2 = .ptr c3 0 := ht 2 _ rfl
  clear ht
  have ex := And.intro @a0 (And.intro @a1 (And.intro @a2 (And.intro @hpB (And.intro @hpK (And.intro @zvE (And.intro @h1 (And.intro @h2 @h3)))))))
  repeat' (first
   | (with_reducible refine isO ?_); first
     | refine mvA (h := ?_)
     | refine asA (h := ?_)
     | refine quA (h := ?_)
     | refine wnA (h := ?_)
     | refine caA (hc := hct) (h := ?_)
   | (with_reducible refine isC ?_); first
     | refine ctA (h := ?_)
     | refine cfA (h := ?_)
     | refine cdA (h1 := fun _ => ?_) (h0 := fun _ => ?_)
     | refine cbA (h1 := fun _ => ?_) (h0 := fun _ => ?_)
   | with_reducible refine Ev.seq ?_
   | with_reducible refine Ev.ops ?_
   | with_reducible refine NxE ?_
   | with_reducible refine BxN ?_
   | with_reducible refine BxX ?_
   | with_reducible refine NxX ?_
   | with_reducible refine NxR ?_
   | with_reducible refine BxR ?_
   | with_reducible refine NxG ?_
   | with_reducible refine BxG ?_
   | with_reducible refine GxR ?_
   | with_reducible refine GxN ?_
   | with_reducible refine GxX ?_
   | with_reducible refine Ev.goto ?_
   | with_reducible refine Ev.block ?_
   | with_reducible refine Ev.skip ?_
   | with_reducible refine Ev.exit ?_
   | with_reducible refine Ev.ret ?_
   | with_reducible refine Ev.label ?_
   | with_reducible refine EvOps.nil ?_
   | with_reducible refine EvPlan.nil ?_
   | (with_reducible refine BxO ?_ ?_; · decide)
   )
  refine lsA (rl := [.cell 3 25]) rfl (hv := by
      simp only [leaveV, packV, strip, stripAgg, stripCell, List.map_cons, List.map_nil, show cx.grow 160 = false from rfl, show cx.keep 160 = false from rfl, show cx.frz 160 = false from rfl, if_false, if_true, Bool.false_eq_true]
      try simp (disch := omega) only [hdrop_ge, hdrop_hset, hw, ite_self, List.take_length]
      first | done | rfl)

set_option maxHeartbeats 8000000 in
theorem setEq {H : List (Nat × Ob)} {n b : Nat} {tx : List UInt8} {nu a f : Int} {d : Int} {nu1 a1 nu2 a2 : Int} {l l1 l' : List L.Tok} {e0 : E} {es : List E} (hfo : findV (.str tx) opsM = some (some (.int .i64 1))) (hb : hget H b = some (.cells (rdC (⟨5, tx, nu, a⟩ :: ⟨5, [123], nu1, a1⟩ :: l) (d)))) (hl : Low n H)
    (hp : KP f 1 d l l1 e0) (hz0 : e0.z = false) (ht : Jt [44] (fun l l' e => KP f 1 d l l' e ∧ e.z = false) l1 (⟨5, [125], nu2, a2⟩ :: l') es) (hlen : es.length ≤ 1099511627776) :
    FnS cx 107 [.ptr b 0, .int .i64 f] ⟨H, n⟩ (jr 6 e0 es).c ⟨hset H b (.cells (rdC (l') (d))), n + 1 + 1 + 1 + 1 + 1 + 1 + 1⟩ := by
  have hbn := hl.lt hb
  have hw := hl.wn
  have hbb : ∀ x, hget (hset H b x) b = some x := fun x => by rw [hpK.2.1, hb]; rfl
  have hlk := lkOps hfo
  have hnx : FnS cx 103 [.ptr b 0] ⟨(n + 1 + 1, .cells [.int .i64 0, .int .i64 0, .int .i64 0, .int .u64 0, .int .u64 0, .sl .full []]) :: (n + 1, .cells [.int .i64 f]) :: (n, .cells [.ptr b 0]) :: H, n + 1 + 1 + 1⟩ (.agg [.int .i64 5, .str tx, .int .u64 nu, .int .i64 a]) ⟨(n + 1 + 1, .cells [.int .i64 0, .int .i64 0, .int .i64 0, .int .u64 0, .int .u64 0, .sl .full []]) :: (n + 1, .cells [.int .i64 f]) :: (n, .cells [.ptr b 0]) :: hset H b (.cells (rdC (⟨5, [123], nu1, a1⟩ :: l) (d))), n + 1 + 1 + 1⟩ := by
    have h := nextL (H := ((n + 1 + 1, .cells [.int .i64 0, .int .i64 0, .int .i64 0, .int .u64 0, .int .u64 0, .sl .full []]) :: (n + 1, .cells [.int .i64 f]) :: (n, .cells [.ptr b 0]) :: H)) (n := (n + 1 + 1 + 1)) (b := b) (k := 5) (tx := tx) (nu := nu) (a := a) (l := ⟨5, [123], nu1, a1⟩ :: l) (d := d) (by simp (disch := omega) only [hpK, hb, hbb]; first | done | fail) ((((hl.le (by omega)).cons (by omega) (by simp only [lowO, lowL, lowV, Bool.and_true, Bool.and_self, decide_eq_true_eq]; omega)).cons (by omega) (by rfl)).cons (by omega) (by rfl)) (by decide)
    try simp (disch := omega) only [hpK] at h
    exact h
  have hye : FnS cx 83 [.ptr b 0, .str [123]] ⟨(n + 1 + 1 + 1 + 1 + 1, .map opsM) :: (n + 1 + 1 + 1 + 1, .cells [.int .i64 1]) :: (n + 1 + 1 + 1, .cells [.int .i64 5, .str tx, .int .u64 nu, .int .i64 a]) :: (n + 1 + 1, .cells [.int .i64 0, .int .i64 0, .int .i64 0, .int .u64 0, .int .u64 0, .sl .full []]) :: (n + 1, .cells [.int .i64 f]) :: (n, .cells [.ptr b 0]) :: hset H b (.cells (rdC (⟨5, [123], nu1, a1⟩ :: l) (d))), n + 1 + 1 + 1 + 1 + 1 + 1⟩ (.bool true) ⟨(n + 1 + 1 + 1 + 1 + 1, .map opsM) :: (n + 1 + 1 + 1 + 1, .cells [.int .i64 1]) :: (n + 1 + 1 + 1, .cells [.int .i64 5, .str tx, .int .u64 nu, .int .i64 a]) :: (n + 1 + 1, .cells [.int .i64 0, .int .i64 0, .int .i64 0, .int .u64 0, .int .u64 0, .sl .full []]) :: (n + 1, .cells [.int .i64 f]) :: (n, .cells [.ptr b 0]) :: hset H b (.cells (rdC (l) (d))), n + 1 + 1 + 1 + 1 + 1 + 1⟩ := by
    have h := opY (H := ((n + 1 + 1 + 1 + 1 + 1, .map opsM) :: (n + 1 + 1 + 1 + 1, .cells [.int .i64 1]) :: (n + 1 + 1 + 1, .cells [.int .i64 5, .str tx, .int .u64 nu, .int .i64 a]) :: (n + 1 + 1, .cells [.int .i64 0, .int .i64 0, .int .i64 0, .int .u64 0, .int .u64 0, .sl .full []]) :: (n + 1, .cells [.int .i64 f]) :: (n, .cells [.ptr b 0]) :: hset H b (.cells (rdC (⟨5, [123], nu1, a1⟩ :: l) (d))))) (n := (n + 1 + 1 + 1 + 1 + 1 + 1)) (b := b) (tx := [123]) (nu := nu1) (a := a1) (l := l) (d := d) (by simp (disch := omega) only [hpK, hb, hbb]; first | done | fail) ((((((((hl.set lowRd).le (by omega)).cons (by omega) (by simp only [lowO, lowL, lowV, Bool.and_true, Bool.and_self, decide_eq_true_eq]; omega)).cons (by omega) (by rfl)).cons (by omega) (by rfl)).cons (by omega) (by rfl)).cons (by omega) (by rfl)).cons (by omega) lowOps)
    try simp (disch := omega) only [hpK] at h
    exact h
  have hct : FnS cx 57 [.ptr b 0, .int .i64 6, .str [44], .func (.func 160) [] [.ptr n 0, .ptr (n + 1) 0, .ptr (n + 1 + 1 + 1 + 1) 0]] ⟨(n + 1 + 1 + 1 + 1 + 1, .map opsM) :: (n + 1 + 1 + 1 + 1, .cells [.int .i64 1]) :: (n + 1 + 1 + 1, .cells [.int .i64 5, .str tx, .int .u64 nu, .int .i64 a]) :: (n + 1 + 1, .cells [.int .i64 0, .int .i64 0, .int .i64 0, .int .u64 0, .int .u64 0, .sl .full []]) :: (n + 1, .cells [.int .i64 f]) :: (n, .cells [.ptr b 0]) :: hset H b (.cells (rdC (l) (d))), n + 1 + 1 + 1 + 1 + 1 + 1⟩ (jr 6 e0 es).c ⟨(n + 1 + 1 + 1 + 1 + 1, .map opsM) :: (n + 1 + 1 + 1 + 1, .cells [.int .i64 1]) :: (n + 1 + 1 + 1, .cells [.int .i64 5, .str tx, .int .u64 nu, .int .i64 a]) :: (n + 1 + 1, .cells [.int .i64 0, .int .i64 0, .int .i64 0, .int .u64 0, .int .u64 0, .sl .full []]) :: (n + 1, .cells [.int .i64 f]) :: (n, .cells [.ptr b 0]) :: hset H b (.cells (rdC (⟨5, [125], nu2, a2⟩ :: l') (d))), n + 1 + 1 + 1 + 1 + 1 + 1⟩ := by
    have h := (joinedG (pk := 160) (fi := []) (ca := [.ptr n 0, .ptr (n + 1) 0, .ptr (n + 1 + 1 + 1 + 1) 0]) (b := b) (cap := [(n, .cells [.ptr b 0]), (n + 1, .cells [.int .i64 f]), (n + 1 + 1 + 1 + 1, .cells [.int .i64 1])]) (kd := 6) (op := [44]) (H0 := (n + 1 + 1 + 1 + 1 + 1, .map opsM) :: (n + 1 + 1 + 1 + 1, .cells [.int .i64 1]) :: (n + 1 + 1 + 1, .cells [.int .i64 5, .str tx, .int .u64 nu, .int .i64 a]) :: (n + 1 + 1, .cells [.int .i64 0, .int .i64 0, .int .i64 0, .int .u64 0, .int .u64 0, .sl .full []]) :: (n + 1, .cells [.int .i64 f]) :: (n, .cells [.ptr b 0]) :: hset H b (.cells (rdC (l) (d)))) (n0 := n + 1 + 1 + 1 + 1 + 1 + 1) (d := d)
      (fun p hp => by simp only [List.mem_cons, List.not_mem_nil, or_false] at hp; rcases hp with rfl | rfl | rfl <;> (simp only; omega))
      (fun p hp => by simp only [List.mem_cons, List.not_mem_nil, or_false] at hp; rcases hp with rfl | rfl | rfl <;> (simp (disch := omega) only [hpK]))
      (by simp (disch := omega) only [hpK, hbb]; first | done | fail) ((((((((hl.set lowRd).le (by omega)).cons (by omega) (by simp only [lowO, lowL, lowV, Bool.and_true, Bool.and_self, decide_eq_true_eq]; omega)).cons (by omega) (by rfl)).cons (by omega) (by rfl)).cons (by omega) (by rfl)).cons (by omega) (by rfl)).cons (by omega) lowOps) hlen (capS hp hz0) hz0 (ht.mono fun _ _ _ h => capS h.1 h.2)).low (lowE _) (((((((((hl.set lowRd).le (by omega)).cons (by omega) (by simp only [lowO, lowL, lowV, Bool.and_true, Bool.and_self, decide_eq_true_eq]; omega)).cons (by omega) (by rfl)).cons (by omega) (by rfl)).cons (by omega) (by rfl)).cons (by omega) (by rfl)).cons (by omega) lowOps).set lowRd)
    try simp (disch := omega) only [hpK] at h
    exact h
  have hz := jr_z (kd := 6) (es := es) hz0
  generalize jr 6 e0 es = e at hct hz ⊢
  obtain ⟨k, f', o', v, m, z, ps⟩ := e
  have hz' : z = false := hz
  subst hz'
  have hec : (E.mk k f' o' v m false ps).c = .agg [.int .i64 k, .int .i64 f', .int .i64 o', .int .u64 v, .int .u64 m, .sl .none (E.cs ps)] := rfl
  rw [hec] at hct ⊢
  have hlo : ∀ {N : Nat}, lowO N (.cells [.int .i64 k, .int .i64 f', .int .i64 o', .int .u64 v, .int .u64 m, .sl .none (E.cs ps)]) := fun {N} => by
    have := lowE (n := N) (.mk k f' o' v m false ps)
    exact this
  have hok : FnS cx 28 [.ptr b 0] ⟨(n + 1 + 1 + 1 + 1 + 1 + 1, .cells [.int .i64 k, .int .i64 f', .int .i64 o', .int .u64 v, .int .u64 m, .sl .none (E.cs ps)]) :: (n + 1 + 1 + 1 + 1 + 1, .map opsM) :: (n + 1 + 1 + 1 + 1, .cells [.int .i64 1]) :: (n + 1 + 1 + 1, .cells [.int .i64 5, .str tx, .int .u64 nu, .int .i64 a]) :: (n + 1 + 1, .cells [.int .i64 0, .int .i64 0, .int .i64 0, .int .u64 0, .int .u64 0, .sl .full []]) :: (n + 1, .cells [.int .i64 f]) :: (n, .cells [.ptr b 0]) :: hset H b (.cells (rdC (⟨5, [125], nu2, a2⟩ :: l') (d))), n + 1 + 1 + 1 + 1 + 1 + 1 + 1⟩ (.bool true) ⟨(n + 1 + 1 + 1 + 1 + 1 + 1, .cells [.int .i64 k, .int .i64 f', .int .i64 o', .int .u64 v, .int .u64 m, .sl .none (E.cs ps)]) :: (n + 1 + 1 + 1 + 1 + 1, .map opsM) :: (n + 1 + 1 + 1 + 1, .cells [.int .i64 1]) :: (n + 1 + 1 + 1, .cells [.int .i64 5, .str tx, .int .u64 nu, .int .i64 a]) :: (n + 1 + 1, .cells [.int .i64 0, .int .i64 0, .int .i64 0, .int .u64 0, .int .u64 0, .sl .full []]) :: (n + 1, .cells [.int .i64 f]) :: (n, .cells [.ptr b 0]) :: hset H b (.cells (rdC (⟨5, [125], nu2, a2⟩ :: l') (d))), n + 1 + 1 + 1 + 1 + 1 + 1 + 1⟩ := by
    have h := okS (H := ((n + 1 + 1 + 1 + 1 + 1 + 1, .cells [.int .i64 k, .int .i64 f', .int .i64 o', .int .u64 v, .int .u64 m, .sl .none (E.cs ps)]) :: (n + 1 + 1 + 1 + 1 + 1, .map opsM) :: (n + 1 + 1 + 1 + 1, .cells [.int .i64 1]) :: (n + 1 + 1 + 1, .cells [.int .i64 5, .str tx, .int .u64 nu, .int .i64 a]) :: (n + 1 + 1, .cells [.int .i64 0, .int .i64 0, .int .i64 0, .int .u64 0, .int .u64 0, .sl .full []]) :: (n + 1, .cells [.int .i64 f]) :: (n, .cells [.ptr b 0]) :: hset H b (.cells (rdC (⟨5, [125], nu2, a2⟩ :: l') (d))))) (n := (n + 1 + 1 + 1 + 1 + 1 + 1 + 1)) (b := b) (l := ⟨5, [125], nu2, a2⟩ :: l') (d := d) (by simp (disch := omega) only [hpK, hb, hbb]; first | done | fail) 
    exact h
  have hyf : FnS cx 83 [.ptr b 0, .str [125]] ⟨(n + 1 + 1 + 1 + 1 + 1 + 1, .cells [.int .i64 k, .int .i64 f', .int .i64 o', .int .u64 v, .int .u64 m, .sl .none (E.cs ps)]) :: (n + 1 + 1 + 1 + 1 + 1, .map opsM) :: (n + 1 + 1 + 1 + 1, .cells [.int .i64 1]) :: (n + 1 + 1 + 1, .cells [.int .i64 5, .str tx, .int .u64 nu, .int .i64 a]) :: (n + 1 + 1, .cells [.int .i64 0, .int .i64 0, .int .i64 0, .int .u64 0, .int .u64 0, .sl .full []]) :: (n + 1, .cells [.int .i64 f]) :: (n, .cells [.ptr b 0]) :: hset H b (.cells (rdC (⟨5, [125], nu2, a2⟩ :: l') (d))), n + 1 + 1 + 1 + 1 + 1 + 1 + 1⟩ (.bool true) ⟨(n + 1 + 1 + 1 + 1 + 1 + 1, .cells [.int .i64 k, .int .i64 f', .int .i64 o', .int .u64 v, .int .u64 m, .sl .none (E.cs ps)]) :: (n + 1 + 1 + 1 + 1 + 1, .map opsM) :: (n + 1 + 1 + 1 + 1, .cells [.int .i64 1]) :: (n + 1 + 1 + 1, .cells [.int .i64 5, .str tx, .int .u64 nu, .int .i64 a]) :: (n + 1 + 1, .cells [.int .i64 0, .int .i64 0, .int .i64 0, .int .u64 0, .int .u64 0, .sl .full []]) :: (n + 1, .cells [.int .i64 f]) :: (n, .cells [.ptr b 0]) :: hset H b (.cells (rdC (l') (d))), n + 1 + 1 + 1 + 1 + 1 + 1 + 1⟩ := by
    have h := opY (H := ((n + 1 + 1 + 1 + 1 + 1 + 1, .cells [.int .i64 k, .int .i64 f', .int .i64 o', .int .u64 v, .int .u64 m, .sl .none (E.cs ps)]) :: (n + 1 + 1 + 1 + 1 + 1, .map opsM) :: (n + 1 + 1 + 1 + 1, .cells [.int .i64 1]) :: (n + 1 + 1 + 1, .cells [.int .i64 5, .str tx, .int .u64 nu, .int .i64 a]) :: (n + 1 + 1, .cells [.int .i64 0, .int .i64 0, .int .i64 0, .int .u64 0, .int .u64 0, .sl .full []]) :: (n + 1, .cells [.int .i64 f]) :: (n, .cells [.ptr b 0]) :: hset H b (.cells (rdC (⟨5, [125], nu2, a2⟩ :: l') (d))))) (n := (n + 1 + 1 + 1 + 1 + 1 + 1 + 1)) (b := b) (tx := [125]) (nu := nu2) (a := a2) (l := l') (d := d) (by simp (disch := omega) only [hpK, hb, hbb]; first | done | fail) (((((((((hl.set lowRd).le (by omega)).cons (by omega) (by simp only [lowO, lowL, lowV, Bool.and_true, Bool.and_self, decide_eq_true_eq]; omega)).cons (by omega) (by rfl)).cons (by omega) (by rfl)).cons (by omega) (by rfl)).cons (by omega) (by rfl)).cons (by omega) lowOps).cons (by omega) hlo)
    try simp (disch := omega) only [hpK] at h
    exact h
  clear hlo
  refine goS Tryz.func107 rfl rfl rfl rfl ?_
  intro t ht
  have a0 : tget t 0 = .ptr b 0 := ht 0 _ rfl
  have a1 : tget t 1 = .int .i64 f := ht 1 _ rfl
  clear ht
  have ex := And.intro @a0 (And.intro @a1 (And.intro @hpB (And.intro @hpK (And.intro @zvE @hlk))))
  repeat' (first
   | (with_reducible refine isO ?_); first
     | refine mvA (h := ?_)
     | refine asA (h := ?_)
     | refine quA (h := ?_)
     | refine wnA (h := ?_)
     | refine caA (hc := hnx) (h := ?_)
     | refine caA (hc := hye) (h := ?_)
     | refine caA (hc := hyf) (h := ?_)
     | refine caA (hc := hct) (h := ?_)
     | refine caA (hc := hok) (h := ?_)
   | (with_reducible refine isG ?_); first
     | refine stA (h := ?_)
     | refine srA (h := ?_)
     | refine swA (h := ?_)
     | refine s1A (h := ?_)
     | refine s0A (h := ?_)
     | refine sgA (h1 := fun _ => ?_) (h0 := fun _ => ?_)
     | refine sbA (h1 := fun _ => ?_) (h0 := fun _ => ?_)
   | (with_reducible refine isP ?_); first
     | refine dqA (h := ?_)
     | refine dcA (i := 0) (l := [2]) (hc := opsK) (h := ?_)
     | refine dnA (i := 4) (l := []) (h := ?_)
     | refine dnA (i := 8) (l := []) (h := ?_)
   | (with_reducible refine isC ?_); first
     | refine ctA (h := ?_)
     | refine cfA (h := ?_)
     | refine cdA (h1 := fun _ => ?_) (h0 := fun _ => ?_)
     | refine cbA (h1 := fun _ => ?_) (h0 := fun _ => ?_)
   | (with_reducible refine isR ?_); first
     | refine Ev.drawn (by decide +kernel) (l := [1, 2, 0, 3, 4]) (by decide +kernel) ?_
     | refine Ev.drawn (by decide +kernel) (l := [0, 1, 2, 3, 4, 5, 6, 7, 8]) (by decide +kernel) ?_
   | with_reducible refine Ev.seq ?_
   | with_reducible refine Ev.ops ?_
   | with_reducible refine NxE ?_
   | with_reducible refine BxN ?_
   | with_reducible refine BxX ?_
   | with_reducible refine NxX ?_
   | with_reducible refine NxR ?_
   | with_reducible refine BxR ?_
   | with_reducible refine NxG ?_
   | with_reducible refine BxG ?_
   | with_reducible refine GxR ?_
   | with_reducible refine GxN ?_
   | with_reducible refine GxX ?_
   | with_reducible refine Ev.goto ?_
   | with_reducible refine Ev.block ?_
   | with_reducible refine Ev.skip ?_
   | with_reducible refine Ev.exit ?_
   | with_reducible refine Ev.ret ?_
   | with_reducible refine Ev.label ?_
   | with_reducible refine EvOps.nil ?_
   | with_reducible refine EvPlan.nil ?_
   | (with_reducible refine BxO ?_ ?_; · decide)
   )
  refine lsA (rl := [.cell 4 25]) rfl (hv := by
      simp only [leaveV, packV, strip, stripAgg, stripCell, List.map_cons, List.map_nil, show cx.grow 107 = false from rfl, show cx.keep 107 = false from rfl, show cx.frz 107 = false from rfl, if_false, if_true, Bool.false_eq_true]
      try simp (disch := omega) only [hdrop_ge, hdrop_hset, hw, ite_self, List.take_length]
      first | done | rfl)

set_option maxHeartbeats 8000000 in
theorem setNe {H : List (Nat × Ob)} {n b : Nat} {tx : List UInt8} {nu a f : Int} {d : Int} {nu1 a1 nu2 a2 : Int} {l l1 l' : List L.Tok} {e0 : E} {es : List E} (hfo : findV (.str tx) opsM = some (some (.int .i64 2))) (hb : hget H b = some (.cells (rdC (⟨5, tx, nu, a⟩ :: ⟨5, [123], nu1, a1⟩ :: l) (d)))) (hl : Low n H)
    (hp : KP f 2 d l l1 e0) (hz0 : e0.z = false) (ht : Jt [44] (fun l l' e => KP f 2 d l l' e ∧ e.z = false) l1 (⟨5, [125], nu2, a2⟩ :: l') es) (hlen : es.length ≤ 1099511627776) :
    FnS cx 107 [.ptr b 0, .int .i64 f] ⟨H, n⟩ (jr 5 e0 es).c ⟨hset H b (.cells (rdC (l') (d))), n + 1 + 1 + 1 + 1 + 1 + 1 + 1⟩ := by
  have hbn := hl.lt hb
  have hw := hl.wn
  have hbb : ∀ x, hget (hset H b x) b = some x := fun x => by rw [hpK.2.1, hb]; rfl
  have hlk := lkOps hfo
  have hnx : FnS cx 103 [.ptr b 0] ⟨(n + 1 + 1, .cells [.int .i64 0, .int .i64 0, .int .i64 0, .int .u64 0, .int .u64 0, .sl .full []]) :: (n + 1, .cells [.int .i64 f]) :: (n, .cells [.ptr b 0]) :: H, n + 1 + 1 + 1⟩ (.agg [.int .i64 5, .str tx, .int .u64 nu, .int .i64 a]) ⟨(n + 1 + 1, .cells [.int .i64 0, .int .i64 0, .int .i64 0, .int .u64 0, .int .u64 0, .sl .full []]) :: (n + 1, .cells [.int .i64 f]) :: (n, .cells [.ptr b 0]) :: hset H b (.cells (rdC (⟨5, [123], nu1, a1⟩ :: l) (d))), n + 1 + 1 + 1⟩ := by
    have h := nextL (H := ((n + 1 + 1, .cells [.int .i64 0, .int .i64 0, .int .i64 0, .int .u64 0, .int .u64 0, .sl .full []]) :: (n + 1, .cells [.int .i64 f]) :: (n, .cells [.ptr b 0]) :: H)) (n := (n + 1 + 1 + 1)) (b := b) (k := 5) (tx := tx) (nu := nu) (a := a) (l := ⟨5, [123], nu1, a1⟩ :: l) (d := d) (by simp (disch := omega) only [hpK, hb, hbb]; first | done | fail) ((((hl.le (by omega)).cons (by omega) (by simp only [lowO, lowL, lowV, Bool.and_true, Bool.and_self, decide_eq_true_eq]; omega)).cons (by omega) (by rfl)).cons (by omega) (by rfl)) (by decide)
    try simp (disch := omega) only [hpK] at h
    exact h
  have hye : FnS cx 83 [.ptr b 0, .str [123]] ⟨(n + 1 + 1 + 1 + 1 + 1, .map opsM) :: (n + 1 + 1 + 1 + 1, .cells [.int .i64 2]) :: (n + 1 + 1 + 1, .cells [.int .i64 5, .str tx, .int .u64 nu, .int .i64 a]) :: (n + 1 + 1, .cells [.int .i64 0, .int .i64 0, .int .i64 0, .int .u64 0, .int .u64 0, .sl .full []]) :: (n + 1, .cells [.int .i64 f]) :: (n, .cells [.ptr b 0]) :: hset H b (.cells (rdC (⟨5, [123], nu1, a1⟩ :: l) (d))), n + 1 + 1 + 1 + 1 + 1 + 1⟩ (.bool true) ⟨(n + 1 + 1 + 1 + 1 + 1, .map opsM) :: (n + 1 + 1 + 1 + 1, .cells [.int .i64 2]) :: (n + 1 + 1 + 1, .cells [.int .i64 5, .str tx, .int .u64 nu, .int .i64 a]) :: (n + 1 + 1, .cells [.int .i64 0, .int .i64 0, .int .i64 0, .int .u64 0, .int .u64 0, .sl .full []]) :: (n + 1, .cells [.int .i64 f]) :: (n, .cells [.ptr b 0]) :: hset H b (.cells (rdC (l) (d))), n + 1 + 1 + 1 + 1 + 1 + 1⟩ := by
    have h := opY (H := ((n + 1 + 1 + 1 + 1 + 1, .map opsM) :: (n + 1 + 1 + 1 + 1, .cells [.int .i64 2]) :: (n + 1 + 1 + 1, .cells [.int .i64 5, .str tx, .int .u64 nu, .int .i64 a]) :: (n + 1 + 1, .cells [.int .i64 0, .int .i64 0, .int .i64 0, .int .u64 0, .int .u64 0, .sl .full []]) :: (n + 1, .cells [.int .i64 f]) :: (n, .cells [.ptr b 0]) :: hset H b (.cells (rdC (⟨5, [123], nu1, a1⟩ :: l) (d))))) (n := (n + 1 + 1 + 1 + 1 + 1 + 1)) (b := b) (tx := [123]) (nu := nu1) (a := a1) (l := l) (d := d) (by simp (disch := omega) only [hpK, hb, hbb]; first | done | fail) ((((((((hl.set lowRd).le (by omega)).cons (by omega) (by simp only [lowO, lowL, lowV, Bool.and_true, Bool.and_self, decide_eq_true_eq]; omega)).cons (by omega) (by rfl)).cons (by omega) (by rfl)).cons (by omega) (by rfl)).cons (by omega) (by rfl)).cons (by omega) lowOps)
    try simp (disch := omega) only [hpK] at h
    exact h
  have hct : FnS cx 57 [.ptr b 0, .int .i64 5, .str [44], .func (.func 160) [] [.ptr n 0, .ptr (n + 1) 0, .ptr (n + 1 + 1 + 1 + 1) 0]] ⟨(n + 1 + 1 + 1 + 1 + 1, .map opsM) :: (n + 1 + 1 + 1 + 1, .cells [.int .i64 2]) :: (n + 1 + 1 + 1, .cells [.int .i64 5, .str tx, .int .u64 nu, .int .i64 a]) :: (n + 1 + 1, .cells [.int .i64 0, .int .i64 0, .int .i64 0, .int .u64 0, .int .u64 0, .sl .full []]) :: (n + 1, .cells [.int .i64 f]) :: (n, .cells [.ptr b 0]) :: hset H b (.cells (rdC (l) (d))), n + 1 + 1 + 1 + 1 + 1 + 1⟩ (jr 5 e0 es).c ⟨(n + 1 + 1 + 1 + 1 + 1, .map opsM) :: (n + 1 + 1 + 1 + 1, .cells [.int .i64 2]) :: (n + 1 + 1 + 1, .cells [.int .i64 5, .str tx, .int .u64 nu, .int .i64 a]) :: (n + 1 + 1, .cells [.int .i64 0, .int .i64 0, .int .i64 0, .int .u64 0, .int .u64 0, .sl .full []]) :: (n + 1, .cells [.int .i64 f]) :: (n, .cells [.ptr b 0]) :: hset H b (.cells (rdC (⟨5, [125], nu2, a2⟩ :: l') (d))), n + 1 + 1 + 1 + 1 + 1 + 1⟩ := by
    have h := (joinedG (pk := 160) (fi := []) (ca := [.ptr n 0, .ptr (n + 1) 0, .ptr (n + 1 + 1 + 1 + 1) 0]) (b := b) (cap := [(n, .cells [.ptr b 0]), (n + 1, .cells [.int .i64 f]), (n + 1 + 1 + 1 + 1, .cells [.int .i64 2])]) (kd := 5) (op := [44]) (H0 := (n + 1 + 1 + 1 + 1 + 1, .map opsM) :: (n + 1 + 1 + 1 + 1, .cells [.int .i64 2]) :: (n + 1 + 1 + 1, .cells [.int .i64 5, .str tx, .int .u64 nu, .int .i64 a]) :: (n + 1 + 1, .cells [.int .i64 0, .int .i64 0, .int .i64 0, .int .u64 0, .int .u64 0, .sl .full []]) :: (n + 1, .cells [.int .i64 f]) :: (n, .cells [.ptr b 0]) :: hset H b (.cells (rdC (l) (d)))) (n0 := n + 1 + 1 + 1 + 1 + 1 + 1) (d := d)
      (fun p hp => by simp only [List.mem_cons, List.not_mem_nil, or_false] at hp; rcases hp with rfl | rfl | rfl <;> (simp only; omega))
      (fun p hp => by simp only [List.mem_cons, List.not_mem_nil, or_false] at hp; rcases hp with rfl | rfl | rfl <;> (simp (disch := omega) only [hpK]))
      (by simp (disch := omega) only [hpK, hbb]; first | done | fail) ((((((((hl.set lowRd).le (by omega)).cons (by omega) (by simp only [lowO, lowL, lowV, Bool.and_true, Bool.and_self, decide_eq_true_eq]; omega)).cons (by omega) (by rfl)).cons (by omega) (by rfl)).cons (by omega) (by rfl)).cons (by omega) (by rfl)).cons (by omega) lowOps) hlen (capS hp hz0) hz0 (ht.mono fun _ _ _ h => capS h.1 h.2)).low (lowE _) (((((((((hl.set lowRd).le (by omega)).cons (by omega) (by simp only [lowO, lowL, lowV, Bool.and_true, Bool.and_self, decide_eq_true_eq]; omega)).cons (by omega) (by rfl)).cons (by omega) (by rfl)).cons (by omega) (by rfl)).cons (by omega) (by rfl)).cons (by omega) lowOps).set lowRd)
    try simp (disch := omega) only [hpK] at h
    exact h
  have hz := jr_z (kd := 5) (es := es) hz0
  generalize jr 5 e0 es = e at hct hz ⊢
  obtain ⟨k, f', o', v, m, z, ps⟩ := e
  have hz' : z = false := hz
  subst hz'
  have hec : (E.mk k f' o' v m false ps).c = .agg [.int .i64 k, .int .i64 f', .int .i64 o', .int .u64 v, .int .u64 m, .sl .none (E.cs ps)] := rfl
  rw [hec] at hct ⊢
  have hlo : ∀ {N : Nat}, lowO N (.cells [.int .i64 k, .int .i64 f', .int .i64 o', .int .u64 v, .int .u64 m, .sl .none (E.cs ps)]) := fun {N} => by
    have := lowE (n := N) (.mk k f' o' v m false ps)
    exact this
  have hok : FnS cx 28 [.ptr b 0] ⟨(n + 1 + 1 + 1 + 1 + 1 + 1, .cells [.int .i64 k, .int .i64 f', .int .i64 o', .int .u64 v, .int .u64 m, .sl .none (E.cs ps)]) :: (n + 1 + 1 + 1 + 1 + 1, .map opsM) :: (n + 1 + 1 + 1 + 1, .cells [.int .i64 2]) :: (n + 1 + 1 + 1, .cells [.int .i64 5, .str tx, .int .u64 nu, .int .i64 a]) :: (n + 1 + 1, .cells [.int .i64 0, .int .i64 0, .int .i64 0, .int .u64 0, .int .u64 0, .sl .full []]) :: (n + 1, .cells [.int .i64 f]) :: (n, .cells [.ptr b 0]) :: hset H b (.cells (rdC (⟨5, [125], nu2, a2⟩ :: l') (d))), n + 1 + 1 + 1 + 1 + 1 + 1 + 1⟩ (.bool true) ⟨(n + 1 + 1 + 1 + 1 + 1 + 1, .cells [.int .i64 k, .int .i64 f', .int .i64 o', .int .u64 v, .int .u64 m, .sl .none (E.cs ps)]) :: (n + 1 + 1 + 1 + 1 + 1, .map opsM) :: (n + 1 + 1 + 1 + 1, .cells [.int .i64 2]) :: (n + 1 + 1 + 1, .cells [.int .i64 5, .str tx, .int .u64 nu, .int .i64 a]) :: (n + 1 + 1, .cells [.int .i64 0, .int .i64 0, .int .i64 0, .int .u64 0, .int .u64 0, .sl .full []]) :: (n + 1, .cells [.int .i64 f]) :: (n, .cells [.ptr b 0]) :: hset H b (.cells (rdC (⟨5, [125], nu2, a2⟩ :: l') (d))), n + 1 + 1 + 1 + 1 + 1 + 1 + 1⟩ := by
    have h := okS (H := ((n + 1 + 1 + 1 + 1 + 1 + 1, .cells [.int .i64 k, .int .i64 f', .int .i64 o', .int .u64 v, .int .u64 m, .sl .none (E.cs ps)]) :: (n + 1 + 1 + 1 + 1 + 1, .map opsM) :: (n + 1 + 1 + 1 + 1, .cells [.int .i64 2]) :: (n + 1 + 1 + 1, .cells [.int .i64 5, .str tx, .int .u64 nu, .int .i64 a]) :: (n + 1 + 1, .cells [.int .i64 0, .int .i64 0, .int .i64 0, .int .u64 0, .int .u64 0, .sl .full []]) :: (n + 1, .cells [.int .i64 f]) :: (n, .cells [.ptr b 0]) :: hset H b (.cells (rdC (⟨5, [125], nu2, a2⟩ :: l') (d))))) (n := (n + 1 + 1 + 1 + 1 + 1 + 1 + 1)) (b := b) (l := ⟨5, [125], nu2, a2⟩ :: l') (d := d) (by simp (disch := omega) only [hpK, hb, hbb]; first | done | fail) 
    exact h
  have hyf : FnS cx 83 [.ptr b 0, .str [125]] ⟨(n + 1 + 1 + 1 + 1 + 1 + 1, .cells [.int .i64 k, .int .i64 f', .int .i64 o', .int .u64 v, .int .u64 m, .sl .none (E.cs ps)]) :: (n + 1 + 1 + 1 + 1 + 1, .map opsM) :: (n + 1 + 1 + 1 + 1, .cells [.int .i64 2]) :: (n + 1 + 1 + 1, .cells [.int .i64 5, .str tx, .int .u64 nu, .int .i64 a]) :: (n + 1 + 1, .cells [.int .i64 0, .int .i64 0, .int .i64 0, .int .u64 0, .int .u64 0, .sl .full []]) :: (n + 1, .cells [.int .i64 f]) :: (n, .cells [.ptr b 0]) :: hset H b (.cells (rdC (⟨5, [125], nu2, a2⟩ :: l') (d))), n + 1 + 1 + 1 + 1 + 1 + 1 + 1⟩ (.bool true) ⟨(n + 1 + 1 + 1 + 1 + 1 + 1, .cells [.int .i64 k, .int .i64 f', .int .i64 o', .int .u64 v, .int .u64 m, .sl .none (E.cs ps)]) :: (n + 1 + 1 + 1 + 1 + 1, .map opsM) :: (n + 1 + 1 + 1 + 1, .cells [.int .i64 2]) :: (n + 1 + 1 + 1, .cells [.int .i64 5, .str tx, .int .u64 nu, .int .i64 a]) :: (n + 1 + 1, .cells [.int .i64 0, .int .i64 0, .int .i64 0, .int .u64 0, .int .u64 0, .sl .full []]) :: (n + 1, .cells [.int .i64 f]) :: (n, .cells [.ptr b 0]) :: hset H b (.cells (rdC (l') (d))), n + 1 + 1 + 1 + 1 + 1 + 1 + 1⟩ := by
    have h := opY (H := ((n + 1 + 1 + 1 + 1 + 1 + 1, .cells [.int .i64 k, .int .i64 f', .int .i64 o', .int .u64 v, .int .u64 m, .sl .none (E.cs ps)]) :: (n + 1 + 1 + 1 + 1 + 1, .map opsM) :: (n + 1 + 1 + 1 + 1, .cells [.int .i64 2]) :: (n + 1 + 1 + 1, .cells [.int .i64 5, .str tx, .int .u64 nu, .int .i64 a]) :: (n + 1 + 1, .cells [.int .i64 0, .int .i64 0, .int .i64 0, .int .u64 0, .int .u64 0, .sl .full []]) :: (n + 1, .cells [.int .i64 f]) :: (n, .cells [.ptr b 0]) :: hset H b (.cells (rdC (⟨5, [125], nu2, a2⟩ :: l') (d))))) (n := (n + 1 + 1 + 1 + 1 + 1 + 1 + 1)) (b := b) (tx := [125]) (nu := nu2) (a := a2) (l := l') (d := d) (by simp (disch := omega) only [hpK, hb, hbb]; first | done | fail) (((((((((hl.set lowRd).le (by omega)).cons (by omega) (by simp only [lowO, lowL, lowV, Bool.and_true, Bool.and_self, decide_eq_true_eq]; omega)).cons (by omega) (by rfl)).cons (by omega) (by rfl)).cons (by omega) (by rfl)).cons (by omega) (by rfl)).cons (by omega) lowOps).cons (by omega) hlo)
    try simp (disch := omega) only [hpK] at h
    exact h
  clear hlo
  refine goS Tryz.func107 rfl rfl rfl rfl ?_
  intro t ht
  have a0 : tget t 0 = .ptr b 0 := ht 0 _ rfl
  have a1 : tget t 1 = .int .i64 f := ht 1 _ rfl
  clear ht
  have ex := And.intro @a0 (And.intro @a1 (And.intro @hpB (And.intro @hpK (And.intro @zvE @hlk))))
  repeat' (first
   | (with_reducible refine isO ?_); first
     | refine mvA (h := ?_)
     | refine asA (h := ?_)
     | refine quA (h := ?_)
     | refine wnA (h := ?_)
     | refine caA (hc := hnx) (h := ?_)
     | refine caA (hc := hye) (h := ?_)
     | refine caA (hc := hyf) (h := ?_)
     | refine caA (hc := hct) (h := ?_)
     | refine caA (hc := hok) (h := ?_)
   | (with_reducible refine isG ?_); first
     | refine stA (h := ?_)
     | refine srA (h := ?_)
     | refine swA (h := ?_)
     | refine s1A (h := ?_)
     | refine s0A (h := ?_)
     | refine sgA (h1 := fun _ => ?_) (h0 := fun _ => ?_)
     | refine sbA (h1 := fun _ => ?_) (h0 := fun _ => ?_)
   | (with_reducible refine isP ?_); first
     | refine dqA (h := ?_)
     | refine dcA (i := 0) (l := [2]) (hc := opsK) (h := ?_)
     | refine dnA (i := 4) (l := []) (h := ?_)
     | refine dnA (i := 8) (l := []) (h := ?_)
   | (with_reducible refine isC ?_); first
     | refine ctA (h := ?_)
     | refine cfA (h := ?_)
     | refine cdA (h1 := fun _ => ?_) (h0 := fun _ => ?_)
     | refine cbA (h1 := fun _ => ?_) (h0 := fun _ => ?_)
   | (with_reducible refine isR ?_); first
     | refine Ev.drawn (by decide +kernel) (l := [1, 2, 0, 3, 4]) (by decide +kernel) ?_
     | refine Ev.drawn (by decide +kernel) (l := [0, 1, 2, 3, 4, 5, 6, 7, 8]) (by decide +kernel) ?_
   | with_reducible refine Ev.seq ?_
   | with_reducible refine Ev.ops ?_
   | with_reducible refine NxE ?_
   | with_reducible refine BxN ?_
   | with_reducible refine BxX ?_
   | with_reducible refine NxX ?_
   | with_reducible refine NxR ?_
   | with_reducible refine BxR ?_
   | with_reducible refine NxG ?_
   | with_reducible refine BxG ?_
   | with_reducible refine GxR ?_
   | with_reducible refine GxN ?_
   | with_reducible refine GxX ?_
   | with_reducible refine Ev.goto ?_
   | with_reducible refine Ev.block ?_
   | with_reducible refine Ev.skip ?_
   | with_reducible refine Ev.exit ?_
   | with_reducible refine Ev.ret ?_
   | with_reducible refine Ev.label ?_
   | with_reducible refine EvOps.nil ?_
   | with_reducible refine EvPlan.nil ?_
   | (with_reducible refine BxO ?_ ?_; · decide)
   )
  refine lsA (rl := [.cell 4 25]) rfl (hv := by
      simp only [leaveV, packV, strip, stripAgg, stripCell, List.map_cons, List.map_nil, show cx.grow 107 = false from rfl, show cx.keep 107 = false from rfl, show cx.frz 107 = false from rfl, if_false, if_true, Bool.false_eq_true]
      try simp (disch := omega) only [hdrop_ge, hdrop_hset, hw, ite_self, List.take_length]
      first | done | rfl)
end Go.Proofs.YtklcmgodhpediaaGreatDoor.K
