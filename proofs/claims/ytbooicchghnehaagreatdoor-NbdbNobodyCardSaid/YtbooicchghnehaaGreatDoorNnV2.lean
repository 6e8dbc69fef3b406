/- Rows are collected: the iterator over a map's values. -/
import Derived.Test.YtbooicchghnehaaGreatDoorNnV1
import Derived.Test.YtbooicchghnehaaGreatDoorN34
set_option linter.unusedSimpArgs false
set_option linter.unusedVariables false
set_option maxRecDepth 1000000
namespace Go.Proofs.YtbooicchghnehaaGreatDoor
open Go Go.Vm Go.Proofs

def isWalkOb : Ob → Bool
  | .map _ | .pin _ _ _ | .iter _ _ _ => true
  | _ => false
/-- Rows in memory. -/
theorem zr31 : ∃ zs, zeroV cn 31 = some (.agg zs) ∧ zs.length = 13 := by
  have : (match zeroV cn 31 with | some (.agg zs) => zs.length == 13 | _ => false) = true := by decide +kernel
  revert this
  cases zeroV cn 31 with
  | none => intro h; cases h
  | some v => cases v <;> first | (intro h; exact ⟨_, rfl, by simpa using h⟩) | (intro h; cases h)
theorem sz31 : szOf cn 31 = some 13 := by decide +kernel
theorem ag31 : ∃ d, cn.P.underlying 31 = some d ∧ isAggT d = true := by
  have : (match cn.P.underlying 31 with | some d => isAggT d | none => false) = true := by decide +kernel
  revert this
  cases cn.P.underlying 31 with
  | none => intro h; cases h
  | some d => intro h; exact ⟨d, rfl, h⟩
theorem st31 {H : List (Nat × Ob)} {b : Nat} {zs cs : List V} (hb : hget H b = some (.cells zs)) (hz : zs.length = 13) (hc : cs.length = 13) : storeH cn H 31 (.ptr b 0) (.agg cs) = some (hset H b (.cells cs)) := by
  simp only [storeH, sz31, cellsOf, hb, hc, hz, Nat.zero_add, Nat.le_refl, and_self, if_true]
  have : putAt zs 0 cs = cs := by
    unfold putAt
    simp [List.drop_eq_nil_of_le, hz, hc]
  rw [this]
theorem ld31 {H : List (Nat × Ob)} {b : Nat} {cs : List V} (hb : hget H b = some (.cells cs)) (hc : cs.length = 13) : loadV cn H 31 (.ptr b 0) = some (.agg cs) := by
  obtain ⟨d, e1, e2⟩ := ag31
  simp only [loadV, hb, partV, e1, e2, sz31, if_true, hc, Nat.zero_add, Nat.le_refl, List.drop_zero]
  rw [List.take_of_length_le (by omega)]
section
variable {H0 : List (Nat × Ob)} {n0 bx mb i NL : Nat} {es : List (V × V)} {t : List (Nat × V)} {ps : Array Tmp} {assign body : Code}
set_option maxHeartbeats 4000000 in
theorem values39 (hbx : hget H0 bx = some (.cells [.map mb])) (hmb : hget H0 mb = some (.map es)) (hi : hget H0 i = some (.loop t NL ps assign body .ready)) (hlt : Lt n0 H0)
    (hps : ps.size = 1) (hpl : ps.toList.all (fun p => decide (p < NL)) = true) (hca : codeOk NL assign = true) (hcb : codeOk NL body = true)
    (hagg : ∀ e ∈ es, ∃ cs, e.2 = .agg cs ∧ cs.length = 13)
    (Inv : List (V × V) → List (Nat × Ob) → Prop) (h0 : Inv [] H0)
    (hsetI : ∀ pre H b ob o, b = mb ∨ n0 ≤ b → hget H b = some ob → isWalkOb ob = true → Inv pre H → Inv pre (hset H b o))
    (hnewI : ∀ pre H m o, Lt m H → Inv pre H → Inv pre ((m, o) :: H))
    (hround : ∀ pre e H m ib ck seen bs, e ∈ es → pre.length < es.length → Inv pre H → Lt m H → hget H i = some (.loop t NL ps assign body .ready) → hget H ib = some (.iter mb ck seen) → hget H mb = some (.pin es bs ck) →
      EvW cn assign ⟨setPs t ps.toList [e.2], []⟩ ⟨H, m⟩ (fun x f1 st1 => x = .normal ∧ hget st1.H i = some (.loop t NL ps assign body .ready) ∧
        EvW cn body f1 ⟨hset st1.H i (.loop t NL ps assign body .busy), st1.n⟩ (fun x f2 st2 => x = .normal ∧ hget st2.H i = some (.loop t NL ps assign body .busy) ∧ Lt st2.n st2.H ∧ hget st2.H ib = some (.iter mb ck seen) ∧ hget st2.H mb = some (.pin es bs ck) ∧
          Inv (pre ++ [e]) (hset st2.H i (.loop t NL ps assign body .ready))))) :
    Vm.Fn cn 39 [.yield i, .ptr bx 0] ⟨H0, n0⟩ (fun v st2 => ∃ pre bs ck, pre.Perm es ∧ Lt st2.n st2.H ∧ Inv pre st2.H ∧ hget st2.H i = some (.loop t NL ps assign body .ready) ∧ hget st2.H mb = some (.pin es bs ck)) := by
  refine Vm.Fn.ofW Tryz.func39 rfl rfl ?_
  obtain ⟨u, hu⟩ : ∃ u, frame0 Tryz.f39.ntmps [V.yield i, V.ptr bx 0] = u := ⟨_, rfl⟩
  have a0 : tget u 0 = .yield i := by rw [← hu]; rfl
  have a1 : tget u 1 = .ptr bx 0 := by rw [← hu]; rfl
  rw [hu]; clear hu
  have hld : loadV cn H0 39 (.ptr bx 0) = some (.map mb) := by
    have e1 : cn.P.underlying 39 = some (.map 42 31) := Tryz.underlying39
    simp only [loadV, hbx, partV, e1, isAggT, Bool.false_eq_true, if_false]
    rfl
  have lmb : mb < n0 := hlt.get hmb
  have lbx : bx < n0 := hlt.get hbx
  have li : i < n0 := hlt.get hi
  refine EvW.seq (EvW.ops (by rfl) ?_)
  refine sQ (v := .map mb) (st' := ⟨H0, n0⟩) ?_ ?_
  · show quietOp cn _ _ (.load 39 (.tmp 1)) = _
    have : rdOp cn H0 (evalO cn ⟨u, []⟩) (.load 39 (.tmp 1)) = some (.map mb) := by
      show loadV cn H0 39 (tget u 1) = _
      rw [a1]; exact hld
    exact quietR this
  refine Vm.EvOps.range (key := 42) (elem := 31) (mb := mb) (es := es) Tryz.underlying39 (by show tget (tset u 5 _) 5 = _; simp [tgP]) hmb ?_
  intro bs ck hbl hbn
  refine Vm.EvOps.nil ?_
  show EvW cn _ _ _ _
  refine EvW.block ?_
  refine EvW.loop_ind (fun r f st => ∃ pre seen m H, r = es.length - pre.length ∧ f.d = [] ∧ tget f.t 0 = .yield i ∧ tget f.t 6 = .ptr n0 0 ∧ st = ⟨H, m⟩ ∧ Come es pre bs seen ∧ Inv pre H ∧ Lt m H ∧ hget H i = some (.loop t NL ps assign body .ready) ∧ hget H n0 = some (.iter mb ck seen) ∧ hget H mb = some (.pin es bs ck)) (n := es.length) ?_ ?_
  · refine ⟨[], [], _, _, by simp, rfl, ?_, ?_, rfl, Come.nil _ _, hnewI _ _ _ _ hlt.set (hsetI _ _ _ _ _ (.inl rfl) hmb rfl h0), (hlt.set.le (Nat.le_succ _)).cons (Nat.lt_succ_self _), ?_, by simp [hget], ?_⟩
    · show tget (tset (tset u 5 _) 6 _) 0 = _; simp [tgP, a0]
    · show tget (tset (tset u 5 _) 6 _) 6 = _; simp [tgP]
    · rw [show hget ((n0, Ob.iter mb ck []) :: hset H0 mb (Ob.pin es bs ck)) i = hget (hset H0 mb (Ob.pin es bs ck)) i by simp [hget]; omega]
      rw [hgN _ _ (fun e => by subst e; rw [hi] at hmb; cases hmb)]; exact hi
    · rw [show hget ((n0, Ob.iter mb ck []) :: hset H0 mb (Ob.pin es bs ck)) mb = hget (hset H0 mb (Ob.pin es bs ck)) mb by simp [hget]; omega]
      exact hgS _ _ hmb
  rintro r f st ⟨pre, seen, m, H, rfl, hd, c0, c6, rfl, hcome, hinv, hl, hli, hib, hpin⟩
  obtain ⟨v, d⟩ := f
  simp only at hd c0 c6
  subst hd
  have hlen := hcome.len hbl
  refine EvW.seq (EvW.ops (by rfl) ?_)
  refine Vm.EvOps.next (ib := n0) (mb := mb) (ck := ck) (seen := seen) (bs := bs) (es := es) (by show tget v 6 = _; exact c6) hib hpin ?_ ?_
  · intro j b e hb he hns
    refine sQ (v := .bool true) (quietR (by show (match tget (tset v 7 _) 7 with | .tup vs => vs[0]? | _ => none) = _; simp [tgP])) (Vm.EvOps.nil ?_)
    show EvW cn _ _ _ _
    refine EvW.seq (EvW.cond (t := true) (by show tget (tset (tset v 7 _) 8 _) 8 = _; simp [tgP]) ?_)
    refine EvW.skip ?_
    show EvW cn _ _ _ _
    refine EvW.block ?_
    obtain ⟨cs, hcs, hcl⟩ := hagg e (List.mem_of_getElem? he)
    obtain ⟨ek, ev⟩ := e
    simp only at hcs
    subst hcs
    obtain ⟨zs, hz, hzl⟩ := zr31
    obtain ⟨H1, hH1⟩ : ∃ H1, H1 = hset H n0 (.iter mb ck (seen ++ [b])) := ⟨_, rfl⟩
    rw [← hH1]
    have n0m : n0 < m := hl.get hib
    have mbm : mb < m := hl.get hpin
    have im : i < m := hl.get hli
    have l1 : Lt m H1 := by rw [hH1]; exact hl.set
    have g1 : hget H1 n0 = some (.iter mb ck (seen ++ [b])) := by rw [hH1]; exact hgS _ _ hib
    have g2 : hget H1 mb = some (.pin es bs ck) := by rw [hH1, hgN _ _ (by omega)]; exact hpin
    have g3 : hget H1 i = some (.loop t NL ps assign body .ready) := by rw [hH1, hgN _ _ (by omega)]; exact hli
    have v1 : Inv pre H1 := by rw [hH1]; exact hsetI _ _ _ _ _ (.inr (Nat.le_refl _)) hib rfl hinv
    clear hH1
    obtain ⟨v2, hv2⟩ : ∃ v2, v2 = tset (tset v 7 (.tup [.bool true, ek, .agg cs])) 8 (.bool true) := ⟨_, rfl⟩
    have d0 : tget v2 0 = .yield i := by rw [hv2]; simp [tgP, c0]
    have d6 : tget v2 6 = .ptr n0 0 := by rw [hv2]; simp [tgP, c6]
    refine EvW.seq (EvW.ops (by rfl) ?_)
    show EvOps cn _ _ ⟨tset (tset v 7 (.tup [.bool true, ek, .agg cs])) 8 (.bool true), []⟩ _ _
    rw [← hv2]; clear hv2 c0 c6
    refine Vm.EvOps.entry (ib := n0) (mb := mb) (ck := ck) (seen := seen) (b := b) (bs := bs) (es := es) (by show tget v2 6 = _; exact d6) g1 g2 hb he ?_
    show EvOps cn _ _ ⟨tset v2 9 (.tup [ek, .agg cs]), []⟩ _ _
    refine sQ (v := .agg cs) (quietR (by show (match tget (tset v2 9 _) 9 with | .tup vs => vs[1]? | _ => none) = _; simp [tgP])) ?_
    refine sQ (v := .ptr m 0) (st' := ⟨(m, .cells zs) :: H1, m + 1⟩) (quietA (ob := some (.cells zs)) rfl (by show ((zeroV cn 31).bind fun z => (cellsOf z).map fun cs => (V.ptr m 0, some (Ob.cells cs))) = _; rw [hz]; rfl)) ?_
    refine sWn (v := .tup []) (st' := ⟨(m, .cells cs) :: H1, m + 1⟩) rfl ?_ (Vm.EvOps.nil ?_)
    · show (storeH cn ((m, .cells zs) :: H1) 31 (tget (tset (tset (tset v2 9 _) 10 _) 4 _) 4) (tget (tset (tset (tset v2 9 _) 10 _) 4 _) 10)).map _ = _
      have e1 : tget (tset (tset (tset v2 9 (.tup [ek, .agg cs])) 10 (.agg cs)) 4 (.ptr m 0)) 4 = .ptr m 0 := by simp [tgP]
      have e2 : tget (tset (tset (tset v2 9 (.tup [ek, .agg cs])) 10 (.agg cs)) 4 (.ptr m 0)) 10 = .agg cs := by simp [tgP]
      rw [e1, e2, st31 (zs := zs) (by simp [hget]) hzl hcl]
      simp [hset]
    obtain ⟨v3, hv3⟩ : ∃ v3, v3 = tset (tset (tset v2 9 (.tup [ek, .agg cs])) 10 (.agg cs)) 4 (.ptr m 0) := ⟨_, rfl⟩
    have k0 : tget v3 0 = .yield i := by rw [hv3]; simp [tgP, d0]
    have k6 : tget v3 6 = .ptr n0 0 := by rw [hv3]; simp [tgP, d6]
    have k4 : tget v3 4 = .ptr m 0 := by rw [hv3]; simp [tgP]
    show EvW cn _ ⟨tset (tset (tset v2 9 (.tup [ek, .agg cs])) 10 (.agg cs)) 4 (.ptr m 0), []⟩ _ _
    rw [← hv3]; clear hv3 d0 d6
    obtain ⟨H2, hH2⟩ : ∃ H2, H2 = (m, Ob.cells cs) :: H1 := ⟨_, rfl⟩
    rw [← hH2]
    have l2 : Lt (m + 1) H2 := by rw [hH2]; exact (l1.le (Nat.le_succ _)).cons (Nat.lt_succ_self _)
    have q0 : hget H2 m = some (.cells cs) := by rw [hH2]; simp [hget]
    have hne : ∀ b, b < m → hget H2 b = hget H1 b := fun b hb => by rw [hH2]; simp [hget]; omega
    have q1 := (hne n0 n0m).trans g1
    have q2 := (hne mb mbm).trans g2
    have q3 := (hne i im).trans g3
    have w1 : Inv pre H2 := by rw [hH2]; exact hnewI _ _ _ _ l1 v1
    clear hne hH2 g1 g2 g3 l1 v1 hib hpin hli hinv hl
    have hcome2 := hcome.step hbl hb he hns
    have hl2 := hcome2.len hbl
    have hr := hround pre (ek, .agg cs) H2 (m + 1) n0 ck (seen ++ [b]) bs (List.mem_of_getElem? he) (by have := hl2.2; simp at this; omega) w1 l2 q3 q1 q2
    refine EvW.seq (EvW.opsW ?_)
    refine EvOpsW.append (l1 := [_, _]) (by rfl) ?_
    refine sQ (v := .yield i) (st' := ⟨H2, m + 1⟩) (quietR (by show some (tget v3 0) = _; rw [k0])) ?_
    refine sQ (v := .agg cs) (st' := ⟨H2, m + 1⟩) (quietR (by show loadV cn H2 31 (tget (tset v3 11 _) 4) = _; rw [show tget (tset v3 11 (.yield i)) 4 = .ptr m 0 by simp [tgP, k4]]; exact ld31 q0 hcl)) (Vm.EvOps.nil ?_)
    refine EvOpsW.yield (i := i) (NL := NL) (t := t) (ps := ps) (assign := assign) (body := body) (by show tget (tset (tset v3 11 _) 12 _) 11 = _; simp [tgP]) q3 (by rw [hps]; rfl) hpl hca hcb ?_
    refine (show setPs t ps.toList [tget (tset (tset v3 11 (.yield i)) 12 (.agg cs)) 12] = setPs t ps.toList [.agg cs] by simp [tgP]) ▸ ?_
    refine hr.mono ?_
    rintro x f1 st1 ⟨r1, r2, r3⟩
    refine ⟨r1, r2, r3.mono ?_⟩
    rintro x f2 ⟨H3, m3⟩ ⟨s1, s2, s3, s4, s5, s6⟩
    refine ⟨s1, s2, ?_⟩
    simp only at s2 s3 s4 s5 s6
    refine EvOpsW.append (l1 := [_]) (l2 := []) (by rfl) ?_
    show EvOps cn _ _ ⟨tset (tset (tset v3 11 (.yield i)) 12 (.agg cs)) 13 (.bool true), []⟩ _ _
    refine sQ (v := .bool false) (quietR (by show unV .not (tget (tset (tset (tset v3 11 _) 12 _) 13 _) 13) = _; simp [tgP]; rfl)) (Vm.EvOps.nil (EvOpsW.nil ?_))
    show EvW cn _ _ _ _
    refine EvW.cond (t := false) (by show tget (tset _ 14 _) 14 = _; simp [tgP]) ?_
    refine EvW.skip ?_
    show ∃ r', r' < _ ∧ _
    refine ⟨es.length - (pre ++ [(ek, V.agg cs)]).length, ?_, pre ++ [(ek, .agg cs)], seen ++ [b], m3, _, rfl, rfl, ?_, ?_, rfl, hcome2, s6, s3.set, hgS _ _ s2, ?_, ?_⟩
    · have := hl2.2
      simp at this ⊢; omega
    · show tget (tset (tset (tset (tset v3 11 _) 12 _) 13 _) 14 _) 0 = _; simp [tgP, k0]
    · show tget (tset (tset (tset (tset v3 11 _) 12 _) 13 _) 14 _) 6 = _; simp [tgP, k6]
    · rw [hgN _ _ (fun e => by subst e; rw [s2] at s4; cases s4)]; exact s4
    · rw [hgN _ _ (fun e => by subst e; rw [s2] at s5; cases s5)]; exact s5
  · intro hall
    refine sQ (v := .bool false) (quietR (by show (match tget (tset v 7 _) 7 with | .tup vs => vs[0]? | _ => none) = _; simp [tgP])) (Vm.EvOps.nil ?_)
    show EvW cn _ _ _ _
    refine EvW.seq (EvW.cond (t := false) (by show tget (tset (tset v 7 _) 8 _) 8 = _; simp [tgP]) ?_)
    refine EvW.exit ?_
    show LvM cn Tryz.f39 39 n0 _ .normal _ _
    refine ⟨.inl rfl, [], rfl, ?_⟩
    show ∃ pre bs ck, _
    exact ⟨pre, bs, ck, hcome.perm hbl hbn hall, hl, hinv, hli, hpin⟩
end
end Go.Proofs.YtbooicchghnehaaGreatDoor
