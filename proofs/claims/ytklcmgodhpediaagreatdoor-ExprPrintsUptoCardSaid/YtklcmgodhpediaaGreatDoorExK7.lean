/- Ors and ands; parts. -/
import Derived.Test.YtklcmgodhpediaaGreatDoorExK6
set_option linter.unusedSimpArgs false
set_option linter.unusedVariables false
set_option maxRecDepth 100000
namespace Go.Proofs.YtklcmgodhpediaaGreatDoor.K
open Go Go.Vm Go.Proofs Go.Proofs.YtklcmgodhpediaaGreatDoor

theorem Jt.mono {op : List UInt8} {P P' : List L.Tok → List L.Tok → E → Prop} (h : ∀ l l' e, P l l' e → P' l l' e) {l l' : List L.Tok} {es : List E} (j : Jt op P l l' es) : Jt op P' l l' es := by
  induction j with
  | stop hk => exact .stop hk
  | more a b _ ih => exact .more (h _ _ _ a) b ih

theorem orS {d : Int} {l l1 l' : List L.Tok} {e : E} {es : List E} (hp : PS 58 d l l1 e) (hz : e.z = false) (ht : Jt [124, 124] (PS 58 d) l1 l' es) (hlen : es.length ≤ 2199023255551) : PS 27 d l l' (jr 6 e es) := by
  intro b H n _ hb hl
  have hbn := hl.lt hb
  have hw := hl.wn
  refine FnS.low (m := n + 1) ?_ (lowE _) (hl.set lowRd)
  have hj := (joinedG (pk := 58) (fi := [.ptr b 0]) (ca := []) (cap := []) (kd := 6) (op := [124, 124]) (H0 := (n, .cells [.int .i64 0, .int .i64 0, .int .i64 0, .int .u64 0, .int .u64 0, .sl .full []]) :: H) (n0 := n + 1) (d := d) (fun p hp => by cases hp) (fun p hp => by cases hp) (by simp (disch := omega) only [hpK, hb]) ((hl.le (by omega)).cons (by omega) (by rfl)) hlen (hp b) hz (ht.mono fun _ _ _ h => h b)).low (lowE _) (((hl.le (by omega)).cons (by omega) (by rfl)).set lowRd)
  rw [hpK.2.2.2.2.1 _ _ _ _ _ (by omega)] at hj
  have hz2 := jr_z (kd := 6) (es := es) hz
  generalize jr 6 e es = x at hj hz2 ⊢
  obtain ⟨k, f, o, v, m, z, ps⟩ := x
  have hz' : z = false := hz2
  subst hz'
  have hec : (E.mk k f o v m false ps).c = .agg [.int .i64 k, .int .i64 f, .int .i64 o, .int .u64 v, .int .u64 m, .sl .none (E.cs ps)] := rfl
  rw [hec] at hj ⊢
  refine goS Tryz.func27 rfl rfl rfl rfl ?_
  intro t ht
  have a0 : tget t 0 = .ptr b 0 := ht 0 _ rfl
  clear ht
  have ex := And.intro @a0 (And.intro @hpB (And.intro @hpK @zvE))
  repeat' (first
   | (with_reducible refine isO ?_); first | refine mvA (h := ?_) | refine asA (h := ?_) | refine quA (h := ?_) | refine wnA (h := ?_) | refine caA (hc := hj) (h := ?_)
   | (with_reducible refine isC ?_); first | refine ctA (h := ?_) | refine cfA (h := ?_) | refine cdA (h1 := fun _ => ?_) (h0 := fun _ => ?_) | refine cbA (h1 := fun _ => ?_) (h0 := fun _ => ?_)
   | with_reducible first | refine Ev.seq ?_ | refine Ev.ops ?_ | refine NxE ?_ | refine BxN ?_ | refine BxX ?_ | refine NxX ?_ | refine NxR ?_ | refine BxR ?_ | refine Ev.block ?_ | refine Ev.skip ?_ | refine Ev.exit ?_ | refine Ev.ret ?_ | refine EvOps.nil ?_ | refine EvPlan.nil ?_
   | (with_reducible refine BxO ?_ ?_; · decide)
   )
  refine lsA (rl := [.cell 2 25]) rfl (hv := by
      simp only [leaveV, packV, strip, stripAgg, stripCell, List.map_cons, List.map_nil, show cx.grow 27 = false from rfl, show cx.keep 27 = false from rfl, show cx.frz 27 = false from rfl, if_false, if_true, Bool.false_eq_true]
      try simp (disch := omega) only [hdrop_ge, hdrop_hset, hw, ite_self, List.take_length]
      first | done | rfl)

theorem andS {d : Int} {l l1 l' : List L.Tok} {e : E} {es : List E} (hp : PS 84 d l l1 e) (hz : e.z = false) (ht : Jt [38, 38] (PS 84 d) l1 l' es) (hlen : es.length ≤ 2199023255551) : PS 58 d l l' (jr 5 e es) := by
  intro b H n _ hb hl
  have hbn := hl.lt hb
  have hw := hl.wn
  refine FnS.low (m := n + 1) ?_ (lowE _) (hl.set lowRd)
  have hj := (joinedG (pk := 84) (fi := [.ptr b 0]) (ca := []) (cap := []) (kd := 5) (op := [38, 38]) (H0 := (n, .cells [.int .i64 0, .int .i64 0, .int .i64 0, .int .u64 0, .int .u64 0, .sl .full []]) :: H) (n0 := n + 1) (d := d) (fun p hp => by cases hp) (fun p hp => by cases hp) (by simp (disch := omega) only [hpK, hb]) ((hl.le (by omega)).cons (by omega) (by rfl)) hlen (hp b) hz (ht.mono fun _ _ _ h => h b)).low (lowE _) (((hl.le (by omega)).cons (by omega) (by rfl)).set lowRd)
  rw [hpK.2.2.2.2.1 _ _ _ _ _ (by omega)] at hj
  have hz2 := jr_z (kd := 5) (es := es) hz
  generalize jr 5 e es = x at hj hz2 ⊢
  obtain ⟨k, f, o, v, m, z, ps⟩ := x
  have hz' : z = false := hz2
  subst hz'
  have hec : (E.mk k f o v m false ps).c = .agg [.int .i64 k, .int .i64 f, .int .i64 o, .int .u64 v, .int .u64 m, .sl .none (E.cs ps)] := rfl
  rw [hec] at hj ⊢
  refine goS Tryz.func58 rfl rfl rfl rfl ?_
  intro t ht
  have a0 : tget t 0 = .ptr b 0 := ht 0 _ rfl
  clear ht
  have ex := And.intro @a0 (And.intro @hpB (And.intro @hpK @zvE))
  repeat' (first
   | (with_reducible refine isO ?_); first | refine mvA (h := ?_) | refine asA (h := ?_) | refine quA (h := ?_) | refine wnA (h := ?_) | refine caA (hc := hj) (h := ?_)
   | (with_reducible refine isC ?_); first | refine ctA (h := ?_) | refine cfA (h := ?_) | refine cdA (h1 := fun _ => ?_) (h0 := fun _ => ?_) | refine cbA (h1 := fun _ => ?_) (h0 := fun _ => ?_)
   | with_reducible first | refine Ev.seq ?_ | refine Ev.ops ?_ | refine NxE ?_ | refine BxN ?_ | refine BxX ?_ | refine NxX ?_ | refine NxR ?_ | refine BxR ?_ | refine Ev.block ?_ | refine Ev.skip ?_ | refine Ev.exit ?_ | refine Ev.ret ?_ | refine EvOps.nil ?_ | refine EvPlan.nil ?_
   | (with_reducible refine BxO ?_ ?_; · decide)
   )
  refine lsA (rl := [.cell 2 25]) rfl (hv := by
      simp only [leaveV, packV, strip, stripAgg, stripCell, List.map_cons, List.map_nil, show cx.grow 58 = false from rfl, show cx.keep 58 = false from rfl, show cx.frz 58 = false from rfl, if_false, if_true, Bool.false_eq_true]
      try simp (disch := omega) only [hdrop_ge, hdrop_hset, hw, ite_self, List.take_length]
      first | done | rfl)

theorem part1 {d : Int} {l : List L.Tok} {nu a : Int} : PS 84 d (⟨2, [49], nu, a⟩ :: l) l (.mk 1 0 0 0 0 false []) := by
  intro b H n _ hb hl
  have hbn := hl.lt hb
  have hw := hl.wn
  have hbb : ∀ x, hget (hset H b x) b = some x := fun x => by rw [hpK.2.1, hb]; rfl
  have hok : ∀ cs, FnS cx 28 [.ptr b 0] ⟨(n, .cells cs) :: H, n + 1⟩ (.bool true) ⟨(n, .cells cs) :: H, n + 1⟩ := fun cs => okS (by rw [hpK.2.2.1 _ _ _ _ (by omega)]; exact hb)
  have hnx : FnS cx 103 [.ptr b 0] ⟨(n, .cells [.int .i64 0, .int .i64 0, .int .i64 0, .int .u64 0, .int .u64 0, .sl .full []]) :: H, n + 1⟩ (.agg [.int .i64 2, .str [49], .int .u64 nu, .int .i64 a]) ⟨(n, .cells [.int .i64 0, .int .i64 0, .int .i64 0, .int .u64 0, .int .u64 0, .sl .full []]) :: hset H b (.cells (rdC (l) (d))), n + 1⟩ := by
    have h := nextL (H := (n, .cells [.int .i64 0, .int .i64 0, .int .i64 0, .int .u64 0, .int .u64 0, .sl .full []]) :: H) (n := n + 1) (b := b) (by rw [hpK.2.2.1 _ _ _ _ (by omega)]; exact hb) ((hl.le (by omega)).cons (by omega) (by rfl)) (by decide)
    rw [hpK.2.2.2.2.1 _ _ _ _ _ (by omega)] at h
    exact h
  have e1 : decide (([49] : List UInt8) = [49]) = true := by decide
  have e2 : decide (([49] : List UInt8) = [48]) = false := by decide
  refine FnS.low (m := n + 2) ?_ (lowE _) (hl.set lowRd)
  have hec : (E.mk 1 0 0 0 0 false []).c = .agg [.int .i64 1, .int .i64 0, .int .i64 0, .int .u64 0, .int .u64 0, .sl .none []] := rfl
  rw [hec]
  refine goS Tryz.func84 rfl rfl rfl rfl ?_
  intro t ht
  have a0 : tget t 0 = .ptr b 0 := ht 0 _ rfl
  clear ht
  have ex := And.intro @a0 (And.intro @hpB (And.intro @hpK (And.intro @zvE (And.intro @e1 @e2))))
  repeat' (first
   | (with_reducible refine isO ?_); first | refine mvA (h := ?_) | refine asA (h := ?_) | refine quA (h := ?_) | refine wnA (h := ?_) | refine caA (hc := hok _) (h := ?_) | refine caA (hc := hnx) (h := ?_)
   | (with_reducible refine isG ?_); first | refine stA (h := ?_) | refine srA (h := ?_) | refine swA (h := ?_) | refine s1A (h := ?_) | refine s0A (h := ?_) | refine sgA (h1 := fun _ => ?_) (h0 := fun _ => ?_) | refine sbA (h1 := fun _ => ?_) (h0 := fun _ => ?_)
   | (with_reducible refine isC ?_); first | refine ctA (h := ?_) | refine cfA (h := ?_) | refine cdA (h1 := fun _ => ?_) (h0 := fun _ => ?_) | refine cbA (h1 := fun _ => ?_) (h0 := fun _ => ?_)
   | with_reducible first | refine Ev.seq ?_ | refine Ev.ops ?_ | refine NxE ?_ | refine BxN ?_ | refine BxX ?_ | refine NxX ?_ | refine NxR ?_ | refine BxR ?_ | refine Ev.block ?_ | refine Ev.skip ?_ | refine Ev.exit ?_ | refine Ev.ret ?_ | refine EvOps.nil ?_ | refine EvPlan.nil ?_
   | (with_reducible refine BxO ?_ ?_; · decide)
   )
  refine lsA (rl := [.cell 2 25]) rfl (hv := by
      simp only [leaveV, packV, strip, stripAgg, stripCell, List.map_cons, List.map_nil, show cx.grow 84 = false from rfl, show cx.keep 84 = false from rfl, show cx.frz 84 = false from rfl, if_false, if_true, Bool.false_eq_true]
      try simp (disch := omega) only [hdrop_ge, hdrop_hset, hw, ite_self, List.take_length]
      first | done | rfl)

theorem part0 {d : Int} {l : List L.Tok} {nu a : Int} : PS 84 d (⟨2, [48], nu, a⟩ :: l) l (.mk 2 0 0 0 0 false []) := by
  intro b H n _ hb hl
  have hbn := hl.lt hb
  have hw := hl.wn
  have hbb : ∀ x, hget (hset H b x) b = some x := fun x => by rw [hpK.2.1, hb]; rfl
  have hok : ∀ cs, FnS cx 28 [.ptr b 0] ⟨(n, .cells cs) :: H, n + 1⟩ (.bool true) ⟨(n, .cells cs) :: H, n + 1⟩ := fun cs => okS (by rw [hpK.2.2.1 _ _ _ _ (by omega)]; exact hb)
  have hnx : FnS cx 103 [.ptr b 0] ⟨(n, .cells [.int .i64 0, .int .i64 0, .int .i64 0, .int .u64 0, .int .u64 0, .sl .full []]) :: H, n + 1⟩ (.agg [.int .i64 2, .str [48], .int .u64 nu, .int .i64 a]) ⟨(n, .cells [.int .i64 0, .int .i64 0, .int .i64 0, .int .u64 0, .int .u64 0, .sl .full []]) :: hset H b (.cells (rdC (l) (d))), n + 1⟩ := by
    have h := nextL (H := (n, .cells [.int .i64 0, .int .i64 0, .int .i64 0, .int .u64 0, .int .u64 0, .sl .full []]) :: H) (n := n + 1) (b := b) (by rw [hpK.2.2.1 _ _ _ _ (by omega)]; exact hb) ((hl.le (by omega)).cons (by omega) (by rfl)) (by decide)
    rw [hpK.2.2.2.2.1 _ _ _ _ _ (by omega)] at h
    exact h
  have e1 : decide (([48] : List UInt8) = [49]) = false := by decide
  have e2 : decide (([48] : List UInt8) = [48]) = true := by decide
  refine FnS.low (m := n + 2) ?_ (lowE _) (hl.set lowRd)
  have hec : (E.mk 2 0 0 0 0 false []).c = .agg [.int .i64 2, .int .i64 0, .int .i64 0, .int .u64 0, .int .u64 0, .sl .none []] := rfl
  rw [hec]
  refine goS Tryz.func84 rfl rfl rfl rfl ?_
  intro t ht
  have a0 : tget t 0 = .ptr b 0 := ht 0 _ rfl
  clear ht
  have ex := And.intro @a0 (And.intro @hpB (And.intro @hpK (And.intro @zvE (And.intro @e1 @e2))))
  repeat' (first
   | (with_reducible refine isO ?_); first | refine mvA (h := ?_) | refine asA (h := ?_) | refine quA (h := ?_) | refine wnA (h := ?_) | refine caA (hc := hok _) (h := ?_) | refine caA (hc := hnx) (h := ?_)
   | (with_reducible refine isG ?_); first | refine stA (h := ?_) | refine srA (h := ?_) | refine swA (h := ?_) | refine s1A (h := ?_) | refine s0A (h := ?_) | refine sgA (h1 := fun _ => ?_) (h0 := fun _ => ?_) | refine sbA (h1 := fun _ => ?_) (h0 := fun _ => ?_)
   | (with_reducible refine isC ?_); first | refine ctA (h := ?_) | refine cfA (h := ?_) | refine cdA (h1 := fun _ => ?_) (h0 := fun _ => ?_) | refine cbA (h1 := fun _ => ?_) (h0 := fun _ => ?_)
   | with_reducible first | refine Ev.seq ?_ | refine Ev.ops ?_ | refine NxE ?_ | refine BxN ?_ | refine BxX ?_ | refine NxX ?_ | refine NxR ?_ | refine BxR ?_ | refine Ev.block ?_ | refine Ev.skip ?_ | refine Ev.exit ?_ | refine Ev.ret ?_ | refine EvOps.nil ?_ | refine EvPlan.nil ?_
   | (with_reducible refine BxO ?_ ?_; · decide)
   )
  refine lsA (rl := [.cell 2 25]) rfl (hv := by
      simp only [leaveV, packV, strip, stripAgg, stripCell, List.map_cons, List.map_nil, show cx.grow 84 = false from rfl, show cx.keep 84 = false from rfl, show cx.frz 84 = false from rfl, if_false, if_true, Bool.false_eq_true]
      try simp (disch := omega) only [hdrop_ge, hdrop_hset, hw, ite_self, List.take_length]
      first | done | rfl)

theorem partW {d : Int} {tx : List UInt8} {nu a : Int} {l l' : List L.Tok} {e : E} (htx : tx = [33] ∨ tx = [40]) (hz : e.z = false)
    (hp : ∀ (H : List (Nat × Ob)) (n b : Nat), hget H b = some (.cells (rdC (l) (d))) → Low n H → FnS cx 104 [.ptr b 0, L.Tok.v ⟨5, tx, nu, a⟩] ⟨H, n⟩ e.c ⟨hset H b (.cells (rdC (l') (d))), n⟩) : PS 84 d (⟨5, tx, nu, a⟩ :: l) l' e := by
  intro b H n _ hb hl
  have hbn := hl.lt hb
  have hw := hl.wn
  have hbb : ∀ x, hget (hset H b x) b = some x := fun x => by rw [hpK.2.1, hb]; rfl
  have hok : ∀ cs, FnS cx 28 [.ptr b 0] ⟨(n, .cells cs) :: H, n + 1⟩ (.bool true) ⟨(n, .cells cs) :: H, n + 1⟩ := fun cs => okS (by rw [hpK.2.2.1 _ _ _ _ (by omega)]; exact hb)
  have hnx : FnS cx 103 [.ptr b 0] ⟨(n, .cells [.int .i64 0, .int .i64 0, .int .i64 0, .int .u64 0, .int .u64 0, .sl .full []]) :: H, n + 1⟩ (.agg [.int .i64 5, .str tx, .int .u64 nu, .int .i64 a]) ⟨(n, .cells [.int .i64 0, .int .i64 0, .int .i64 0, .int .u64 0, .int .u64 0, .sl .full []]) :: hset H b (.cells (rdC (l) (d))), n + 1⟩ := by
    have h := nextL (H := (n, .cells [.int .i64 0, .int .i64 0, .int .i64 0, .int .u64 0, .int .u64 0, .sl .full []]) :: H) (n := n + 1) (b := b) (by rw [hpK.2.2.1 _ _ _ _ (by omega)]; exact hb) ((hl.le (by omega)).cons (by omega) (by rfl)) (by decide)
    rw [hpK.2.2.2.2.1 _ _ _ _ _ (by omega)] at h
    exact h
  have hwi : FnS cx 104 [.ptr b 0, .agg [.int .i64 5, .str tx, .int .u64 nu, .int .i64 a]] ⟨(n + 1, .cells [.int .i64 5, .str tx, .int .u64 nu, .int .i64 a]) :: (n, .cells [.int .i64 0, .int .i64 0, .int .i64 0, .int .u64 0, .int .u64 0, .sl .full []]) :: hset H b (.cells (rdC (l) (d))), n + 1 + 1⟩ e.c ⟨(n + 1, .cells [.int .i64 5, .str tx, .int .u64 nu, .int .i64 a]) :: (n, .cells [.int .i64 0, .int .i64 0, .int .i64 0, .int .u64 0, .int .u64 0, .sl .full []]) :: hset H b (.cells (rdC (l') (d))), n + 1 + 1⟩ := by
    have h := hp ((n + 1, .cells [.int .i64 5, .str tx, .int .u64 nu, .int .i64 a]) :: (n, .cells [.int .i64 0, .int .i64 0, .int .i64 0, .int .u64 0, .int .u64 0, .sl .full []]) :: hset H b (.cells (rdC (l) (d)))) (n + 1 + 1) b (by simp (disch := omega) only [hpK, hbb]) ((((hl.set lowRd).le (by omega)).cons (by omega) (by rfl)).cons (by omega) (by rfl))
    simp (disch := omega) only [hpK] at h
    exact h
  refine FnS.low (m := n + 1 + 1) ?_ (lowE _) (hl.set lowRd)
  obtain ⟨k, f, o, v, m, z, ps⟩ := e
  have hz' : z = false := hz
  subst hz'
  have hec : (E.mk k f o v m false ps).c = .agg [.int .i64 k, .int .i64 f, .int .i64 o, .int .u64 v, .int .u64 m, .sl .none (E.cs ps)] := rfl
  rw [hec] at hwi ⊢
  rcases htx with rfl | rfl
  · have e1 : decide (([33] : List UInt8) = [33]) = true := by decide
    refine goS Tryz.func84 rfl rfl rfl rfl ?_
    intro t ht
    have a0 : tget t 0 = .ptr b 0 := ht 0 _ rfl
    clear ht
    have ex := And.intro @a0 (And.intro @hpB (And.intro @hpK (And.intro @zvE @e1)))
    repeat' (first
     | (with_reducible refine isO ?_); first | refine mvA (h := ?_) | refine asA (h := ?_) | refine quA (h := ?_) | refine wnA (h := ?_) | refine caA (hc := hok _) (h := ?_) | refine caA (hc := hnx) (h := ?_) | refine caA (hc := hwi) (h := ?_)
     | (with_reducible refine isG ?_); first | refine stA (h := ?_) | refine srA (h := ?_) | refine swA (h := ?_) | refine s1A (h := ?_) | refine s0A (h := ?_) | refine sgA (h1 := fun _ => ?_) (h0 := fun _ => ?_) | refine sbA (h1 := fun _ => ?_) (h0 := fun _ => ?_)
     | (with_reducible refine isC ?_); first | refine ctA (h := ?_) | refine cfA (h := ?_) | refine cdA (h1 := fun _ => ?_) (h0 := fun _ => ?_) | refine cbA (h1 := fun _ => ?_) (h0 := fun _ => ?_)
     | with_reducible first | refine Ev.seq ?_ | refine Ev.ops ?_ | refine NxE ?_ | refine BxN ?_ | refine BxX ?_ | refine NxX ?_ | refine NxR ?_ | refine BxR ?_ | refine Ev.block ?_ | refine Ev.skip ?_ | refine Ev.exit ?_ | refine Ev.ret ?_ | refine EvOps.nil ?_ | refine EvPlan.nil ?_
     | (with_reducible refine BxO ?_ ?_; · decide)
     )
    refine lsA (rl := [.cell 2 25]) rfl (hv := by
      simp only [leaveV, packV, strip, stripAgg, stripCell, List.map_cons, List.map_nil, show cx.grow 84 = false from rfl, show cx.keep 84 = false from rfl, show cx.frz 84 = false from rfl, if_false, if_true, Bool.false_eq_true]
      try simp (disch := omega) only [hdrop_ge, hdrop_hset, hw, ite_self, List.take_length]
      first | done | rfl)
  · have e1 : decide (([40] : List UInt8) = [33]) = false := by decide
    have e2 : decide (([40] : List UInt8) = [40]) = true := by decide
    refine goS Tryz.func84 rfl rfl rfl rfl ?_
    intro t ht
    have a0 : tget t 0 = .ptr b 0 := ht 0 _ rfl
    clear ht
    have ex := And.intro @a0 (And.intro @hpB (And.intro @hpK (And.intro @zvE (And.intro @e1 @e2))))
    repeat' (first
     | (with_reducible refine isO ?_); first | refine mvA (h := ?_) | refine asA (h := ?_) | refine quA (h := ?_) | refine wnA (h := ?_) | refine caA (hc := hok _) (h := ?_) | refine caA (hc := hnx) (h := ?_) | refine caA (hc := hwi) (h := ?_)
     | (with_reducible refine isG ?_); first | refine stA (h := ?_) | refine srA (h := ?_) | refine swA (h := ?_) | refine s1A (h := ?_) | refine s0A (h := ?_) | refine sgA (h1 := fun _ => ?_) (h0 := fun _ => ?_) | refine sbA (h1 := fun _ => ?_) (h0 := fun _ => ?_)
     | (with_reducible refine isC ?_); first | refine ctA (h := ?_) | refine cfA (h := ?_) | refine cdA (h1 := fun _ => ?_) (h0 := fun _ => ?_) | refine cbA (h1 := fun _ => ?_) (h0 := fun _ => ?_)
     | with_reducible first | refine Ev.seq ?_ | refine Ev.ops ?_ | refine NxE ?_ | refine BxN ?_ | refine BxX ?_ | refine NxX ?_ | refine NxR ?_ | refine BxR ?_ | refine Ev.block ?_ | refine Ev.skip ?_ | refine Ev.exit ?_ | refine Ev.ret ?_ | refine EvOps.nil ?_ | refine EvPlan.nil ?_
     | (with_reducible refine BxO ?_ ?_; · decide)
     )
    refine lsA (rl := [.cell 2 25]) rfl (hv := by
      simp only [leaveV, packV, strip, stripAgg, stripCell, List.map_cons, List.map_nil, show cx.grow 84 = false from rfl, show cx.keep 84 = false from rfl, show cx.frz 84 = false from rfl, if_false, if_true, Bool.false_eq_true]
      try simp (disch := omega) only [hdrop_ge, hdrop_hset, hw, ite_self, List.take_length]
      first | done | rfl)
theorem partNot {d : Int} {nu a : Int} {l l' : List L.Tok} {e : E} (hd : 0 ≤ d ∧ d < 32) (hp : PS 84 (d + 1) l l' e) (hz : e.z = false) : PS 84 d (⟨5, [33], nu, a⟩ :: l) l' (.mk 4 0 0 0 0 false [e]) :=
  partW (.inl rfl) rfl fun H n b hb hl => (notS hb hl hd hp hz).low (lowE _) (hl.set lowRd)
theorem partBr {d : Int} {nu a nu2 a2 : Int} {l l' : List L.Tok} {e : E} (hd : 0 ≤ d ∧ d < 32) (hp : PS 27 (d + 1) l (⟨5, [41], nu2, a2⟩ :: l') e) (hz : e.z = false) : PS 84 d (⟨5, [40], nu, a⟩ :: l) l' e :=
  partW (.inr rfl) hz fun H n b hb hl => (brS hb hl hd hp hz).low (lowE _) (hl.set lowRd)

theorem partCmp {d : Int} {tx : List UInt8} {nu a f : Int} {l l' : List L.Tok} {e : E} (hz : e.z = false) (hwd : ∀ st, FnS cx 105 [.str tx] st (.tup [.agg [.int .i64 0, .int .i64 0, .int .i64 0, .int .u64 0, .int .u64 0, .sl .none []], .bool false]) st) (hfi : ∀ st, FnS cx 106 [.str tx] st (.tup [.int .i64 f, .bool true]) st)
    (hp : ∀ (H : List (Nat × Ob)) (n b : Nat), hget H b = some (.cells (rdC (l) (d))) → Low n H → FnS cx 107 [.ptr b 0, .int .i64 f] ⟨H, n⟩ e.c ⟨hset H b (.cells (rdC (l') (d))), n⟩) : PS 84 d (⟨1, tx, nu, a⟩ :: l) l' e := by
  intro b H n _ hb hl
  have hbn := hl.lt hb
  have hw := hl.wn
  have hbb : ∀ x, hget (hset H b x) b = some x := fun x => by rw [hpK.2.1, hb]; rfl
  have hok : ∀ cs, FnS cx 28 [.ptr b 0] ⟨(n, .cells cs) :: H, n + 1⟩ (.bool true) ⟨(n, .cells cs) :: H, n + 1⟩ := fun cs => okS (by rw [hpK.2.2.1 _ _ _ _ (by omega)]; exact hb)
  have hnx : FnS cx 103 [.ptr b 0] ⟨(n, .cells [.int .i64 0, .int .i64 0, .int .i64 0, .int .u64 0, .int .u64 0, .sl .full []]) :: H, n + 1⟩ (.agg [.int .i64 1, .str tx, .int .u64 nu, .int .i64 a]) ⟨(n, .cells [.int .i64 0, .int .i64 0, .int .i64 0, .int .u64 0, .int .u64 0, .sl .full []]) :: hset H b (.cells (rdC (l) (d))), n + 1⟩ := by
    have h := nextL (H := (n, .cells [.int .i64 0, .int .i64 0, .int .i64 0, .int .u64 0, .int .u64 0, .sl .full []]) :: H) (n := n + 1) (b := b) (by rw [hpK.2.2.1 _ _ _ _ (by omega)]; exact hb) ((hl.le (by omega)).cons (by omega) (by rfl)) (by decide)
    rw [hpK.2.2.2.2.1 _ _ _ _ _ (by omega)] at h
    exact h
  have hwi : FnS cx 107 [.ptr b 0, .int .i64 f] ⟨(n + 1 + 1, .cells [.int .i64 0, .int .i64 0, .int .i64 0, .int .u64 0, .int .u64 0, .sl .none []]) :: (n + 1, .cells [.int .i64 1, .str tx, .int .u64 nu, .int .i64 a]) :: (n, .cells [.int .i64 0, .int .i64 0, .int .i64 0, .int .u64 0, .int .u64 0, .sl .full []]) :: hset H b (.cells (rdC (l) (d))), n + 1 + 1 + 1⟩ e.c ⟨(n + 1 + 1, .cells [.int .i64 0, .int .i64 0, .int .i64 0, .int .u64 0, .int .u64 0, .sl .none []]) :: (n + 1, .cells [.int .i64 1, .str tx, .int .u64 nu, .int .i64 a]) :: (n, .cells [.int .i64 0, .int .i64 0, .int .i64 0, .int .u64 0, .int .u64 0, .sl .full []]) :: hset H b (.cells (rdC (l') (d))), n + 1 + 1 + 1⟩ := by
    have h := hp ((n + 1 + 1, .cells [.int .i64 0, .int .i64 0, .int .i64 0, .int .u64 0, .int .u64 0, .sl .none []]) :: (n + 1, .cells [.int .i64 1, .str tx, .int .u64 nu, .int .i64 a]) :: (n, .cells [.int .i64 0, .int .i64 0, .int .i64 0, .int .u64 0, .int .u64 0, .sl .full []]) :: hset H b (.cells (rdC (l) (d)))) (n + 1 + 1 + 1) b (by simp (disch := omega) only [hpK, hbb]) (((((hl.set lowRd).le (by omega)).cons (by omega) (by rfl)).cons (by omega) (by rfl)).cons (by omega) (by rfl))
    simp (disch := omega) only [hpK] at h
    exact h
  refine FnS.low (m := n + 1 + 1 + 1) ?_ (lowE _) (hl.set lowRd)
  obtain ⟨k, f', o, v, m, z, ps⟩ := e
  have hz' : z = false := hz
  subst hz'
  have hec : (E.mk k f' o v m false ps).c = .agg [.int .i64 k, .int .i64 f', .int .i64 o, .int .u64 v, .int .u64 m, .sl .none (E.cs ps)] := rfl
  rw [hec] at hwi ⊢
  refine goS Tryz.func84 rfl rfl rfl rfl ?_
  intro t ht
  have a0 : tget t 0 = .ptr b 0 := ht 0 _ rfl
  clear ht
  have ex := And.intro @a0 (And.intro @hpB (And.intro @hpK @zvE))
  repeat' (first
   | (with_reducible refine isO ?_); first | refine mvA (h := ?_) | refine asA (h := ?_) | refine quA (h := ?_) | refine wnA (h := ?_) | refine caA (hc := hok _) (h := ?_) | refine caA (hc := hnx) (h := ?_) | refine caA (hc := (hwd _)) (h := ?_) | refine caA (hc := (hfi _)) (h := ?_) | refine caA (hc := hwi) (h := ?_)
   | (with_reducible refine isG ?_); first | refine stA (h := ?_) | refine srA (h := ?_) | refine swA (h := ?_) | refine s1A (h := ?_) | refine s0A (h := ?_) | refine sgA (h1 := fun _ => ?_) (h0 := fun _ => ?_) | refine sbA (h1 := fun _ => ?_) (h0 := fun _ => ?_)
   | (with_reducible refine isC ?_); first | refine ctA (h := ?_) | refine cfA (h := ?_) | refine cdA (h1 := fun _ => ?_) (h0 := fun _ => ?_) | refine cbA (h1 := fun _ => ?_) (h0 := fun _ => ?_)
   | with_reducible first | refine Ev.seq ?_ | refine Ev.ops ?_ | refine NxE ?_ | refine BxN ?_ | refine BxX ?_ | refine NxX ?_ | refine NxR ?_ | refine BxR ?_ | refine Ev.block ?_ | refine Ev.skip ?_ | refine Ev.exit ?_ | refine Ev.ret ?_ | refine EvOps.nil ?_ | refine EvPlan.nil ?_
   | (with_reducible refine BxO ?_ ?_; · decide)
   )
  refine lsA (rl := [.cell 2 25]) rfl (hv := by
      simp only [leaveV, packV, strip, stripAgg, stripCell, List.map_cons, List.map_nil, show cx.grow 84 = false from rfl, show cx.keep 84 = false from rfl, show cx.frz 84 = false from rfl, if_false, if_true, Bool.false_eq_true]
      try simp (disch := omega) only [hdrop_ge, hdrop_hset, hw, ite_self, List.take_length]
      first | done | rfl)
end Go.Proofs.YtklcmgodhpediaaGreatDoor.K
