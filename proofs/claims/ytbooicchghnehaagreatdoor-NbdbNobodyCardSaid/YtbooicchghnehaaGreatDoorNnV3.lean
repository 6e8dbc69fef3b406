/- Rows are collected: slices.AppendSeq. -/
import Derived.Test.YtbooicchghnehaaGreatDoorNnV2
set_option linter.unusedSimpArgs false
set_option linter.unusedVariables false
set_option maxRecDepth 1000000
namespace Go.Proofs.YtbooicchghnehaaGreatDoor
open Go Go.Vm Go.Proofs

theorem stripCell_idem (v : V) : stripCell (stripCell v) = stripCell v := by cases v <;> rfl
theorem stripAgg_idem (v : V) : stripAgg (stripAgg v) = stripAgg v := by
  cases v <;> try rfl
  rename_i cs
  simp only [stripAgg, List.map_map]
  congr 1
  exact List.map_congr_left fun v _ => stripCell_idem v
theorem hget_hdrop {n b : Nat} (hb : b < n) : ∀ H : List (Nat × Ob), hget (hdrop n H) b = hget H b
  | [] => rfl
  | (i, o) :: r => by
    by_cases h : n ≤ i
    · have : (i == b) = false := by simp; omega
      simp only [hdrop, h, if_true, hget, this, Bool.false_eq_true, if_false, hget_hdrop hb r]
    · simp only [hdrop, h, if_false]
/-- One row in a slice of its own. -/
theorem bs31 {cs : List V} (hc : cs.length = 13) : buildSliceV cn 35 1 [(0, .agg cs)] = some (.sl .full [stripAgg (.agg cs)]) := by
  obtain ⟨zs, hz, hzl⟩ := zr31
  have e1 : cn.P.underlying 35 = some (.slice 31) := Tryz.underlying35
  simp only [buildSliceV, e1, sz31, hz, ncells, hzl, List.all_cons, List.all_nil, isElem, hc]
  rw [if_pos (by simp)]
  rfl
theorem zo31 : zeroOk cn 31 13 = true := by
  obtain ⟨zs, hz, hzl⟩ := zr31
  simp [zeroOk, hz, isElem, ncells, hzl]
/-- A row is added. -/
theorem ap31 {st : St} {tip : Tip} {xs : List V} {r : V} (hx : szOk 13 xs = true) (hr : ncells r = 13) (h1 : (xs.length + 1) * byOf cn 31 ≤ 2 ^ 47) (h2 : xs.length + 1 ≤ 2 ^ 47) (ht : tip = .full ∨ ∃ T, tip = .own T ∧ hget st.H T = some (.tip 13)) :
    ∃ H, appendV cn st 35 (.sl tip xs) (.sl .full [r]) = some (.sl (.own st.n) (xs ++ [stripAgg r]), ⟨(st.n, .tip 13) :: H, st.n + 1⟩) ∧ (H = st.H ∨ ∃ T, tip = .own T ∧ H = hdel st.H T) := by
  have e1 : cn.P.underlying 35 = some (.slice 31) := Tryz.underlying35
  have e2 : szOk 13 [r] = true := by simp [szOk, hr]
  rcases ht with rfl | ⟨T, rfl, hT⟩
  · refine ⟨st.H, ?_, .inl rfl⟩
    simp only [appendV, e1, sz31, addedV, e2, if_true, List.isEmpty_cons, Bool.false_eq_true, if_false, hx, zo31, List.length_singleton, h1, h2]
    rw [if_pos (by simp)]
    rfl
  · refine ⟨hdel st.H T, ?_, .inr ⟨T, rfl, rfl⟩⟩
    simp only [appendV, e1, sz31, addedV, e2, if_true, List.isEmpty_cons, Bool.false_eq_true, if_false, hx, zo31, List.length_singleton, h1, h2, hT]
    rw [if_pos (by simp)]
    rfl

section
variable {H0 : List (Nat × Ob)} {n0 bx mb : Nat} {es : List (V × V)}
/-- The code of a round. -/
noncomputable def asg38 : Code := match Tryz.f38.body with | some (.seq _ (.seq (.seq _ (.block _ (.rangeFunc _ _ a _))) _)) => a | _ => .skip
noncomputable def bod38 : Code := match Tryz.f38.body with | some (.seq _ (.seq (.seq _ (.block _ (.rangeFunc _ _ _ b))) _)) => b | _ => .skip
/-- What holds while rows come. -/
structure Ai (H0 : List (Nat × Ob)) (n0 mb : Nat) (es pre : List (V × V)) (H : List (Nat × Ob)) : Prop where
  mrk : hget H (n0 + 1) = some .mark
  bx : ∃ tip, hget H n0 = some (.cells [.sl tip (pre.map fun e => stripAgg e.2)]) ∧ (tip = .full ∨ ∃ T, tip = .own T ∧ n0 + 2 < T ∧ hget H T = some (.tip 13))
  old : ∀ b o, b ≠ mb → hget H0 b = some o → hget H b = some o
  sz : szOk 13 (pre.map fun e => stripAgg e.2) = true

theorem ld35 {H : List (Nat × Ob)} {b : Nat} {v : V} (hb : hget H b = some (.cells [v])) : loadV cn H 35 (.ptr b 0) = some v := by
  have e1 : cn.P.underlying 35 = some (.slice 31) := Tryz.underlying35
  simp only [loadV, hb, partV, e1, isAggT, Bool.false_eq_true, if_false]
  rfl
theorem sz35 : szOf cn 35 = some 1 := by decide +kernel
theorem st35 {H : List (Nat × Ob)} {b : Nat} {v : V} {tip : Tip} {xs : List V} (hb : hget H b = some (.cells [v])) : storeH cn H 35 (.ptr b 0) (.sl tip xs) = some (hset H b (.cells [.sl tip xs])) := by
  simp only [storeH, sz35, cellsOf, hb]
  rfl
set_option maxHeartbeats 4000000 in
theorem round38 {u2 : List (Nat × V)} {N m ib ck : Nat} {pre : List (V × V)} {e : V × V} {H : List (Nat × Ob)} {seen bs : List Nat} (b2 : tget u2 2 = .ptr n0 0) (hlt : Lt n0 H0) (lmb : mb < n0)
    (hagg : ∃ cs, e.2 = .agg cs ∧ cs.length = 13) (h1 : (pre.length + 1) * byOf cn 31 ≤ 2 ^ 47) (h2 : pre.length + 1 ≤ 2 ^ 47) (hai : Ai H0 n0 mb es pre H) (hl : Lt m H)
    (hi : hget H (n0 + 2) = some (.loop u2 N #[7] asg38 bod38 .ready)) (hib : hget H ib = some (.iter mb ck seen)) (hmb' : hget H mb = some (.pin es bs ck)) :
    EvW cn asg38 ⟨setPs u2 (#[7] : Array Tmp).toList [e.2], []⟩ ⟨H, m⟩ (fun x f1 st1 => x = .normal ∧ hget st1.H (n0 + 2) = some (.loop u2 N #[7] asg38 bod38 .ready) ∧
      EvW cn bod38 f1 ⟨hset st1.H (n0 + 2) (.loop u2 N #[7] asg38 bod38 .busy), st1.n⟩ (fun x f2 st2 => x = .normal ∧ hget st2.H (n0 + 2) = some (.loop u2 N #[7] asg38 bod38 .busy) ∧ Lt st2.n st2.H ∧ hget st2.H ib = some (.iter mb ck seen) ∧ hget st2.H mb = some (.pin es bs ck) ∧
        Ai H0 n0 mb es (pre ++ [e]) (hset st2.H (n0 + 2) (.loop u2 N #[7] asg38 bod38 .ready)))) := by
  obtain ⟨ek, ev⟩ := e
  obtain ⟨cs, hcs, hcl⟩ := hagg
  simp only at hcs
  subst hcs
  obtain ⟨zs, hz, hzl⟩ := zr31
  obtain ⟨k1, ⟨tip, k2, k3⟩, k4, k5⟩ := hai
  refine EvW.ops (by rfl) ?_
  show EvOps cn _ _ ⟨tset u2 7 (.agg cs), []⟩ _ _
  refine sQ (v := .ptr m 0) (st' := ⟨(m, .cells zs) :: H, m + 1⟩) (quietA (ob := some (.cells zs)) rfl (by show ((zeroV cn 31).bind fun z => (cellsOf z).map fun cs => (V.ptr m 0, some (Ob.cells cs))) = _; rw [hz]; rfl)) ?_
  refine sWn (v := .tup []) (st' := ⟨(m, .cells cs) :: H, m + 1⟩) rfl ?_ (Vm.EvOps.nil ?_)
  · show (storeH cn ((m, .cells zs) :: H) 31 (tget (tset (tset u2 7 _) 5 _) 5) (tget (tset (tset u2 7 _) 5 _) 7)).map _ = _
    have e1 : tget (tset (tset u2 7 (.agg cs)) 5 (.ptr m 0)) 5 = .ptr m 0 := by simp [tgP]
    have e2 : tget (tset (tset u2 7 (.agg cs)) 5 (.ptr m 0)) 7 = .agg cs := by simp [tgP]
    rw [e1, e2, st31 (zs := zs) (by simp [hget]) hzl hcl]
    simp [hset]
  have mn : n0 + 2 < m := hl.get hi
  have hne : ∀ {b o}, hget H b = some o → hget ((m, Ob.cells cs) :: H) b = some o := fun {b o} h => by
    have := hl.get h
    have e1 : ¬ (m = b) := by omega
    simp [hget, e1, h]
  refine ⟨rfl, hne hi, ?_⟩
  show EvW cn _ ⟨tset (tset u2 7 (.agg cs)) 5 (.ptr m 0), []⟩ ⟨hset ((m, Ob.cells cs) :: H) (n0 + 2) _, m + 1⟩ _
  obtain ⟨u3, hu3⟩ : ∃ u3, u3 = tset (tset u2 7 (.agg cs)) 5 (.ptr m 0) := ⟨_, rfl⟩
  have c2 : tget u3 2 = .ptr n0 0 := by rw [hu3]; simp [tgP, b2]
  have c5 : tget u3 5 = .ptr m 0 := by rw [hu3]; simp [tgP]
  rw [← hu3]; clear hu3
  obtain ⟨H3, hH3⟩ : ∃ H3, H3 = hset ((m, Ob.cells cs) :: H) (n0 + 2) (.loop u2 N #[7] asg38 bod38 .busy) := ⟨_, rfl⟩
  rw [← hH3]
  have kp : ∀ {b o}, b ≠ n0 + 2 → hget H b = some o → hget H3 b = some o := fun {b o} hb h => by rw [hH3, hgN _ _ hb]; exact hne h
  have kl : hget H3 (n0 + 2) = some (.loop u2 N #[7] asg38 bod38 .busy) := by rw [hH3]; exact hgS _ _ (hne hi)
  have km : hget H3 m = some (.cells cs) := by rw [hH3, hgN _ _ (by omega)]; simp [hget]
  have l3 : Lt (m + 1) H3 := by rw [hH3]; exact ((hl.le (Nat.le_succ _)).cons (Nat.lt_succ_self _)).set
  have j1 := kp (by omega) k1
  have j2 := kp (by omega) k2
  have jib := kp (fun e => by subst e; rw [hi] at hib; cases hib) hib
  have jmb := kp (fun e => by subst e; rw [hi] at hmb'; cases hmb') hmb'
  have j4 : ∀ b o, b ≠ mb → hget H0 b = some o → hget H3 b = some o := fun b o hb ho => kp (by have := hlt.get ho; omega) (k4 b o hb ho)
  have j3 : tip = .full ∨ ∃ T, tip = .own T ∧ n0 + 2 < T ∧ hget H3 T = some (.tip 13) := by
    rcases k3 with k3 | ⟨T, k3, k6, k7⟩
    · exact .inl k3
    · exact .inr ⟨T, k3, k6, kp (by omega) k7⟩
  clear hH3 hne kp hi hib hmb' k1 k2 k3 k4 hl
  obtain ⟨vals, hvals⟩ : ∃ vals, vals = pre.map fun e => stripAgg e.2 := ⟨_, rfl⟩
  have hvl : vals.length = pre.length := by rw [hvals, List.length_map]
  rw [← hvals] at j2 k5
  obtain ⟨H4, ha, hH4⟩ := ap31 (st := ⟨H3, m + 1⟩) (tip := tip) (xs := vals) (r := stripAgg (.agg cs)) k5 (by simp [stripAgg, ncells, hcl]) (by rw [hvl]; exact h1) (by rw [hvl]; exact h2) (by
    rcases j3 with j | ⟨T, j, _, j'⟩
    · exact .inl j
    · exact .inr ⟨T, j, j'⟩)
  rw [stripAgg_idem] at ha
  refine EvW.block (EvW.ops (by rfl) ?_)
  refine sQ (v := .sl tip vals) (st' := ⟨H3, m + 1⟩) (quietR (by show loadV cn H3 35 (tget u3 2) = _; rw [c2]; exact ld35 j2)) ?_
  refine sQ (v := .agg cs) (st' := ⟨H3, m + 1⟩) (quietR (by show loadV cn H3 31 (tget (tset u3 8 _) 5) = _; rw [show tget (tset u3 8 (.sl tip vals)) 5 = .ptr m 0 by simp [tgP, c5]]; exact ld31 km hcl)) ?_
  refine sQ (v := .sl .full [stripAgg (.agg cs)]) (st' := ⟨H3, m + 1⟩) (quietA (ob := none) rfl (by show (buildSliceV cn 35 1 [(0, tget (tset (tset u3 8 _) 9 _) 9)]).map _ = _; rw [show tget (tset (tset u3 8 (.sl tip vals)) 9 (.agg cs)) 9 = .agg cs by simp [tgP], bs31 hcl]; rfl)) ?_
  refine sW (v := .sl (.own (m + 1)) (vals ++ [stripAgg (.agg cs)])) (st' := ⟨(m + 1, .tip 13) :: H4, m + 1 + 1⟩) rfl ?_ ?_
  · show (match cn.P.underlying 35 with | some (.slice _) | some .string => appendV cn ⟨H3, m + 1⟩ 35 (tget (tset (tset (tset u3 8 (.sl tip vals)) 9 (.agg cs)) 10 (.sl .full [stripAgg (.agg cs)])) 8) (tget (tset (tset (tset u3 8 (.sl tip vals)) 9 (.agg cs)) 10 (.sl .full [stripAgg (.agg cs)])) 10) | _ => none) = _
    have e1 : tget (tset (tset (tset u3 8 (.sl tip vals)) 9 (.agg cs)) 10 (.sl .full [stripAgg (.agg cs)])) 8 = .sl tip vals := by simp [tgP]
    have e2 : tget (tset (tset (tset u3 8 (.sl tip vals)) 9 (.agg cs)) 10 (.sl .full [stripAgg (.agg cs)])) 10 = .sl .full [stripAgg (.agg cs)] := by simp [tgP]
    rw [e1, e2, show cn.P.underlying 35 = some (.slice 31) from Tryz.underlying35]
    exact ha
  have q : ∀ {b o}, hget H3 b = some o → (∀ T, tip = .own T → b ≠ T) → hget ((m + 1, Ob.tip 13) :: H4) b = some o := fun {b o} h hb => by
    have := l3.get h
    have e1 : ¬ (m + 1 = b) := by omega
    simp only [hget, show (m + 1 == b) = false by simpa using e1, Bool.false_eq_true, if_false]
    rcases hH4 with rfl | ⟨T, hT, rfl⟩
    · exact h
    · rw [hdN _ (hb T hT)]; exact h
  have hTb : ∀ {b o}, hget H3 b = some o → o ≠ .tip 13 → ∀ T, tip = .own T → b ≠ T := fun {b o} h ho T hT e => by
    subst e
    rcases j3 with j3 | ⟨T', j3, _, j5⟩
    · rw [j3] at hT; cases hT
    · rw [j3] at hT; cases hT
      rw [j5] at h; cases h; exact ho rfl
  have l4 : Lt (m + 1 + 1) ((m + 1, Ob.tip 13) :: H4) := by
    refine Lt.cons ?_ (Nat.lt_succ_self _)
    rcases hH4 with rfl | ⟨T, hT, rfl⟩
    · exact l3.le (Nat.le_succ _)
    · exact l3.del.le (Nat.le_succ _)
  have p1 := q j1 (hTb j1 (by simp))
  have p2 := q j2 (hTb j2 (by simp))
  have pib := q jib (hTb jib (by simp))
  have pmb := q jmb (hTb jmb (by simp))
  have pl := q kl (hTb kl (by simp))
  have pT : hget ((m + 1, Ob.tip 13) :: H4) (m + 1) = some (.tip 13) := by simp [hget]
  have p4 : ∀ b o, b ≠ mb → hget H0 b = some o → hget ((m + 1, Ob.tip 13) :: H4) b = some o := fun b o hb ho => q (j4 b o hb ho) fun T hT => by
    have := hlt.get ho
    rcases j3 with j3 | ⟨T', j3, j5, _⟩
    · rw [j3] at hT; cases hT
    · rw [j3] at hT; cases hT; omega
  clear q hTb hH4 ha
  obtain ⟨H5, hH5⟩ : ∃ H5, H5 = (m + 1, Ob.tip 13) :: H4 := ⟨_, rfl⟩
  rw [← hH5] at p1 p2 pib pmb pl pT p4 l4
  rw [← hH5]
  clear hH5
  refine sWn (v := .tup []) (st' := ⟨hset H5 n0 (.cells [.sl (.own (m + 1)) (vals ++ [stripAgg (.agg cs)])]), m + 1 + 1⟩) rfl ?_ (Vm.EvOps.nil ?_)
  · show (storeH cn H5 35 (tget (tset (tset (tset (tset u3 8 _) 9 _) 10 _) 11 _) 2) (tget (tset (tset (tset (tset u3 8 _) 9 _) 10 _) 11 _) 11)).map _ = _
    have e1 : tget (tset (tset (tset (tset u3 8 (.sl tip vals)) 9 (.agg cs)) 10 (.sl .full [stripAgg (.agg cs)])) 11 (.sl (.own (m + 1)) (vals ++ [stripAgg (.agg cs)]))) 2 = .ptr n0 0 := by simp [tgP, c2]
    have e2 : tget (tset (tset (tset (tset u3 8 (.sl tip vals)) 9 (.agg cs)) 10 (.sl .full [stripAgg (.agg cs)])) 11 (.sl (.own (m + 1)) (vals ++ [stripAgg (.agg cs)]))) 11 = .sl (.own (m + 1)) (vals ++ [stripAgg (.agg cs)]) := by simp [tgP]
    rw [e1, e2, st35 p2]
    rfl
  have nn : ∀ {b o}, hget H5 b = some o → (∀ vs, o ≠ .cells vs) → b ≠ n0 := fun {b o} h ho e => by subst e; rw [p2] at h; cases h; exact ho _ rfl
  refine ⟨rfl, ?_, l4.set, ?_, ?_, ?_, ⟨.own (m + 1), ?_, .inr ⟨m + 1, rfl, by omega, ?_⟩⟩, ?_, ?_⟩
  · show hget (hset H5 n0 _) _ = _
    rw [hgN _ _ (by omega)]; exact pl
  · show hget (hset H5 n0 _) _ = _
    rw [hgN _ _ (nn pib (by simp))]; exact pib
  · show hget (hset H5 n0 _) _ = _
    rw [hgN _ _ (nn pmb (by simp))]; exact pmb
  · show hget (hset (hset H5 n0 _) _ _) _ = _
    rw [hgN _ _ (by omega), hgN _ _ (by omega)]; exact p1
  · show hget (hset (hset H5 n0 _) _ _) _ = _
    rw [hgN _ _ (by omega), hgS _ _ p2, List.map_append, ← hvals]; rfl
  · show hget (hset (hset H5 n0 _) _ _) _ = _
    rw [hgN _ _ (by omega), hgN _ _ (by omega)]; exact pT
  · intro b o hb ho
    have := hlt.get ho
    show hget (hset (hset H5 n0 _) _ _) _ = _
    rw [hgN _ _ (by omega), hgN _ _ (by omega)]; exact p4 b o hb ho
  · rw [List.map_append, ← hvals]
    show szOk 13 (vals ++ [stripAgg (.agg cs)]) = true
    cases vals with
    | nil => simp [szOk, stripAgg, ncells, hcl]
    | cons x xs => exact k5

set_option maxHeartbeats 4000000 in
theorem append38 (hbx : hget H0 bx = some (.cells [.map mb])) (hmb : hget H0 mb = some (.map es)) (hlt : Lt n0 H0) (hagg : ∀ e ∈ es, ∃ cs, e.2 = .agg cs ∧ cs.length = 13) (h1 : es.length * byOf cn 31 ≤ 2 ^ 47) (h2 : es.length ≤ 2 ^ 47) :
    Vm.Fn cn 38 [.sl .full [], .func (.func 39) [] [.ptr bx 0]] ⟨H0, n0⟩ (fun v st' => (∃ pre : List (V × V), pre.Perm es ∧ v = .sl .none (pre.map fun e => stripAgg e.2)) ∧ ∀ b o, hget H0 b = some o → hget st'.H b = some o) := by
  have lmb : mb < n0 := hlt.get hmb
  have lbx : bx < n0 := hlt.get hbx
  have hbm : bx ≠ mb := fun e => by subst e; rw [hbx] at hmb; cases hmb
  refine Vm.Fn.ofM Tryz.func38 rfl rfl ?_
  obtain ⟨u, hu⟩ : ∃ u, frame0 Tryz.f38.ntmps [V.sl .full [], V.func (.func 39) [] [.ptr bx 0]] = u := ⟨_, rfl⟩
  have a0 : tget u 0 = .sl .full [] := by rw [← hu]; rfl
  have a1 : tget u 1 = .func (.func 39) [] [.ptr bx 0] := by rw [← hu]; rfl
  rw [hu]; clear hu
  refine Vm.Ev.seq (Vm.Ev.ops ?_ (by rfl))
  refine sQ (v := .ptr n0 0) (st' := ⟨(n0, .cells [.sl .full []]) :: H0, n0 + 1⟩) (quietA (ob := some (.cells [.sl .full []])) rfl (by show (cellsOf (tget u 0)).map _ = _; rw [a0]; rfl)) ?_
  refine sQ (v := .sl .full []) (st' := ⟨(n0, .cells [.sl .full []]) :: H0, n0 + 1⟩) (quietR rfl) (Vm.EvOps.nil ?_)
  show Vm.Ev cn _ _ _ _
  refine Vm.Ev.seq ?_
  refine Vm.Ev.seq (Vm.Ev.ops ?_ (by rfl))
  refine sQ (v := .func (.func 39) [] [.ptr bx 0]) (st' := ⟨(n0, .cells [.sl .full []]) :: H0, n0 + 1⟩) (quietR (by show some (tget (tset (tset u 2 _) 4 _) 1) = _; simp [tgP, a1])) (Vm.EvOps.nil ?_)
  obtain ⟨u2, hu2⟩ : ∃ u2, u2 = tset (tset (tset u 2 (.ptr n0 0)) 4 (.sl .full [])) 6 (.func (.func 39) [] [.ptr bx 0]) := ⟨_, rfl⟩
  have b2 : tget u2 2 = .ptr n0 0 := by rw [hu2]; simp [tgP]
  have b6 : tget u2 6 = .func (.func 39) [] [.ptr bx 0] := by rw [hu2]; simp [tgP]
  show Vm.Ev cn _ ⟨tset (tset (tset u 2 (.ptr n0 0)) 4 (.sl .full [])) 6 (.func (.func 39) [] [.ptr bx 0]), []⟩ _ _
  rw [← hu2]; clear hu2 a0 a1
  refine Vm.Ev.block ?_
  show Vm.Ev cn (.rangeFunc (.tmp 6) #[7] asg38 bod38) _ _ _
  refine Vm.Ev.rangeFunc (kf := 39) (ca := [.ptr bx 0]) b6 fun N hN => ?_
  have hN : (([7] : List Nat).all (fun p => decide (p < N)) && codeOk N asg38 && codeOk N bod38) = true := hN
  simp only [Bool.and_eq_true] at hN
  obtain ⟨⟨hN1, hN2⟩, hN3⟩ := hN
  have g1 : ∀ b o, b < n0 → hget H0 b = some o → hget ((n0 + 2, Ob.loop u2 N #[7] asg38 bod38 .ready) :: (n0 + 1, Ob.mark) :: (n0, Ob.cells [.sl .full []]) :: H0) b = some o := fun b o hb ho => by
    have e1 : ¬ (n0 + 2 = b) := by omega
    have e2 : ¬ (n0 + 1 = b) := by omega
    have e3 : ¬ (n0 = b) := by omega
    simp [hget, e1, e2, e3, ho]
  refine (values39 (n0 := n0 + 3) (i := n0 + 2) (NL := N) (t := u2) (ps := #[7]) (assign := asg38) (body := bod38) (g1 bx _ lbx hbx) (g1 mb _ lmb hmb) (by simp [hget]) ?_ rfl hN1 hN2 hN3 hagg (Ai H0 n0 mb es) ?_ ?_ ?_ ?_).mono ?_
  · exact (((hlt.le (by omega)).cons (by omega)).cons (by omega)).cons (by omega)
  · refine ⟨by simp [hget], ⟨.full, by simp [hget], .inl rfl⟩, fun b o _ ho => g1 b o (hlt.get ho) ho, rfl⟩
  · rintro pre H b ob o hb hob hw ⟨k1, ⟨tip, k2, k3⟩, k4, k5⟩
    refine ⟨?_, ⟨tip, ?_, ?_⟩, ?_, k5⟩
    · rw [hgN _ _ (fun e => by subst e; rw [k1] at hob; cases hob; cases hw)]; exact k1
    · rw [hgN _ _ (fun e => by subst e; rw [k2] at hob; cases hob; cases hw)]; exact k2
    · rcases k3 with k3 | ⟨T, k3, k6, k7⟩
      · exact .inl k3
      · exact .inr ⟨T, k3, k6, by rw [hgN _ _ (fun e => by subst e; rw [k7] at hob; cases hob; cases hw)]; exact k7⟩
    · intro b' o' hb' ho'
      have := hlt.get ho'
      rw [hgN _ _ (by rcases hb with rfl | hb <;> omega)]
      exact k4 b' o' hb' ho'
  · rintro pre H m o hl ⟨k1, ⟨tip, k2, k3⟩, k4, k5⟩
    have hc : ∀ {b o'}, hget H b = some o' → hget ((m, o) :: H) b = some o' := fun {b o'} h => by
      have := hl.get h
      have e1 : ¬ (m = b) := by omega
      simp [hget, e1, h]
    refine ⟨hc k1, ⟨tip, hc k2, ?_⟩, fun b' o' hb' ho' => hc (k4 b' o' hb' ho'), k5⟩
    rcases k3 with k3 | ⟨T, k3, k6, k7⟩
    · exact .inl k3
    · exact .inr ⟨T, k3, k6, hc k7⟩
  · intro pre e H m ib ck seen bs he hlen hai hl hi hib hmb'
    exact round38 b2 hlt lmb (hagg e he) (Nat.le_trans (Nat.mul_le_mul_right _ hlen) h1) (Nat.le_trans hlen h2) hai hl hi hib hmb'
  · rintro v ⟨H, m⟩ ⟨pre, bs, ck, hp, hl, ⟨k1, ⟨tip, k2, k3⟩, k4, k5⟩, hi, hpin⟩
    refine ⟨hi, k1, ?_⟩
    show Vm.Ev cn _ ⟨u2, [(.yield (n0 + 1), [])]⟩ ⟨hdel H (n0 + 2), m⟩ _
    have d : ∀ {b o}, b ≠ n0 + 2 → hget H b = some o → hget (hdel H (n0 + 2)) b = some o := fun {b o} hb h => by rw [hdN _ hb]; exact h
    refine Vm.Ev.unpin (d (by omega) hpin) ?_
    show Vm.Ev cn _ _ ⟨hset (hdel H (n0 + 2)) mb (.map es), m⟩ _
    have r : ∀ {b o}, b ≠ n0 + 2 → b ≠ mb → hget H b = some o → hget (hset (hdel H (n0 + 2)) mb (.map es)) b = some o := fun {b o} hb hb' h => by rw [hgN _ _ hb']; exact d hb h
    have rm : hget (hset (hdel H (n0 + 2)) mb (.map es)) mb = some (.map es) := hgS _ _ (d (by omega) hpin)
    have r1 := r (by omega) (by omega) k1
    have r2 := r (by omega) (by omega) k2
    have r4 : ∀ b o, hget H0 b = some o → hget (hset (hdel H (n0 + 2)) mb (.map es)) b = some o := fun b o ho => by
      have := hlt.get ho
      by_cases hb : b = mb
      · subst hb; rw [hmb] at ho; cases ho; exact rm
      · exact r (by omega) hb (k4 b o hb ho)
    obtain ⟨H6, hH6⟩ : ∃ H6, H6 = hset (hdel H (n0 + 2)) mb (.map es) := ⟨_, rfl⟩
    rw [← hH6] at r1 r2 r4
    rw [← hH6]
    clear hH6 r rm d
    refine Vm.Ev.seq (Vm.Ev.ops ?_ (by rfl))
    refine sQ (v := .sl tip (pre.map fun e => stripAgg e.2)) (st' := ⟨H6, m⟩) (quietR (by show loadV cn H6 35 (tget u2 2) = _; rw [b2]; exact ld35 r2)) ?_
    refine sQ (v := .sl tip (pre.map fun e => stripAgg e.2)) (st' := ⟨H6, m⟩) (quietR (by show some (tget (tset u2 12 _) 12) = _; simp [tgP])) (Vm.EvOps.nil ?_)
    show Vm.Ev cn _ _ _ _
    refine Vm.Ev.ret ?_
    show LvM cn Tryz.f38 38 n0 _ .ret _ _
    refine ⟨.inr rfl, r1, [.sl tip (pre.map fun e => stripAgg e.2)], ?_, ?_⟩
    · show (some [tget (tset (tset u2 12 _) 4 _) 4] : Option (List V)) = _
      simp [tgP]
    · show (∃ pre_1 : List (V × V), _) ∧ _
      refine ⟨⟨pre, hp, rfl⟩, fun b o ho => ?_⟩
      show hget (hdrop n0 (hdel H6 (n0 + 1))) b = _
      have := hlt.get ho
      rw [hget_hdrop (hlt.get ho), hdN _ (by omega)]
      exact r4 b o ho
end
end Go.Proofs.YtbooicchghnehaaGreatDoor
