/- The text of an expression, as the document has it. -/
import Derived.Test.YtklcmgodhpediaaGreatDoorExR4
set_option linter.unusedSimpArgs false
set_option linter.unusedVariables false
set_option maxRecDepth 100000
namespace Go.Proofs.YtklcmgodhpediaaGreatDoor.P
open Go Go.Vm Go.Proofs Go.Proofs.YtklcmgodhpediaaGreatDoor

theorem join_snoc {l : List (List UInt8)} (h : l ≠ []) (x sep : List UInt8) : Lib.join (l ++ [x]) sep = Lib.join l sep ++ sep ++ x := by
  cases l with
  | nil => exact absurd rfl h
  | cons a r =>
    rw [List.cons_append, Lib.join_cons, Lib.join_cons]
    simp [Lib.joinTail]
theorem join_take_le {l : List (List UInt8)} (i : Nat) (sep : List UInt8) : (Lib.join (l.take i) sep).length ≤ (Lib.join l sep).length := by
  cases l with
  | nil => simp
  | cons a r =>
    cases i with
    | zero => rw [List.take_zero, Lib.join_nil]; exact Nat.zero_le _
    | succ i =>
      rw [List.take_succ_cons, Lib.join_cons, Lib.join_cons, List.length_append, List.length_append]
      have := Lib.joinTail_take_le sep r i
      omega
theorem op_at {o : Int} (h1 : 1 ≤ o) (h6 : o ≤ 6) : ([.str [], .str [61, 61], .str [33, 61], .str [60], .str [60, 61], .str [62], .str [62, 61]] : List V)[o.toNat]? = some (.str (opT o)) := by
  have : o = 1 ∨ o = 2 ∨ o = 3 ∨ o = 4 ∨ o = 5 ∨ o = 6 := by omega
  rcases this with rfl | rfl | rfl | rfl | rfl | rfl <;> rfl
theorem bs7 : buildSliceV cx 74 7 [(0, .str []), (1, .str [61, 61]), (2, .str [33, 61]), (3, .str [60]), (4, .str [60, 61]), (5, .str [62]), (6, .str [62, 61])] = some (.sl .full [.str [], .str [61, 61], .str [33, 61], .str [60], .str [60, 61], .str [62], .str [62, 61]]) := by rfl
theorem br_yes {q : E} (h : E.kd q = 5 ∨ E.kd q = 6) : brT [5, 6] q = 40 :: (txE q ++ [41]) := by unfold brT; rw [if_pos (by simpa using h)]
theorem br_no {q : E} (h : ¬ (E.kd q = 5 ∨ E.kd q = 6)) : brT [5, 6] q = txE q := by unfold brT; rw [if_neg (by simpa using h)]

set_option maxHeartbeats 16000000 in
theorem refG (k f o v m : Int) (z : Bool) (ps : List E) (hok : (E.mk k f o v m z ps).Ok) (d : Int) (hd : okE d (.mk k f o v m z ps) = true) (hnd : ndE (.mk k f o v m z ps) ≤ 1099511627776)
    (ih : ∀ q ∈ ps, ∀ st, FnS cx 23 [q.c] st (.str (txE q)) st) (st : St) :
    FnS cx 23 [E.c (.mk k f o v m z ps)] st (.str (txE (.mk k f o v m z ps))) st := by
  have hle := txE_len _ hok
  have hlp : ∀ q ∈ ps, (txE q).length ≤ 100000000000000 := fun q hq => by
    have h1 := txE_len q (by cases hok; rename_i hpo; exact hpo q hq)
    have h2 := nd_mem hq
    rw [ndE] at hnd; omega
  obtain ⟨hk, hf, ho, hv, hm, hl, hpo⟩ := hok
  obtain ⟨hd64, hnode, hparts⟩ := okE_parts hd
  have hu := unown_c (.mk k f o v m z ps)
  have hp := E.pure (.mk k f o v m z ps)
  have hcl := cs_len ps
  have hso := szOk_cs ps
  refine goP Tryz.func23 rfl rfl rfl rfl ?_ ?_
  · simp only [List.map_cons, List.map_nil, hu, pureVs, hp, Bool.and_self]
  intro t ht
  have a0 : tget t 0 = E.c (.mk k f o v m z ps) := ht 0 _ (by simp only [List.map_cons, hu]; rfl)
  clear ht
  rw [E.c] at a0
  have htl : (txE (.mk k f o v m z ps)).length ≤ 100000000000000 := by omega
  clear hu hp
  by_cases h3 : k = 3
  · subst h3
    have hn3 := node_is hnode rfl
    have hrn := refNameS f hn3.1 hn3.2.1
    have hal := refAllS f hn3.1 hn3.2.1
    have hv2 : v = ((v.toNat : Nat) : Int) := by omega
    have hm2 : m = ((m.toNat : Nat) : Int) := by omega
    have hx1 : ∀ st, FnS cx 39 [.int .u64 v] st (.str (K.hexT v.toNat)) st := fun st => by have := refHexS v.toNat (by omega) st; rw [← hv2] at this; exact this
    have hx2 : ∀ st, FnS cx 39 [.int .u64 m] st (.str (K.hexT m.toNat)) st := fun st => by have := refHexS m.toNat (by omega) st; rw [← hm2] at this; exact this
    have g1 := hexT_le (v := v) (by omega)
    have g2 := hexT_le (v := m) (by omega)
    have g3 := nm_len f
    have g4 := opT_le o
    have hopx := op_at hn3.2.2.1 hn3.2.2.2
    have htx : txE (.mk 3 f o v m z ps) = cmpL (nmT f) o (K.hexT v.toNat) (allN f) m (K.hexT m.toNat) := by rw [txE, if_neg (by decide), if_neg (by decide), if_pos rfl]; rfl
    rw [htx]
    unfold cmpL
    clear htx htl hle
    generalize nmT f = nm at hrn g3
    generalize K.hexT v.toNat = X1 at hx1 g1
    generalize K.hexT m.toNat = X2 at hx2 g2
    generalize opT o = OP at hopx g4
    generalize allN f = al at hal
    have o1 : 0 ≤ o := by omega
    have ex := And.intro @a0 (And.intro @hcl (And.intro @hso (And.intro @hpB (And.intro @hpE (And.intro @zvR (And.intro @bs7 (And.intro @hopx @lenA)))))))
    repeat' (first
     | (with_reducible refine isO ?_); first | refine mvA (h := ?_) | refine asA (h := ?_) | refine quA (h := ?_) | refine wnA (h := ?_) | refine caA (hc := (hx1 _)) (h := ?_) | refine caA (hc := (hx2 _)) (h := ?_)
     | (with_reducible refine isG ?_); first | refine stA (h := ?_) | refine srA (h := ?_) | refine swA (h := ?_) | refine s1A (h := ?_) | refine s0A (h := ?_) | refine sgA (h1 := fun _ => ?_) (h0 := fun _ => ?_) | refine sbA (h1 := fun _ => ?_) (h0 := fun _ => ?_)
     | (with_reducible refine isP ?_); first | refine dqA (h := ?_) | refine dcA (i := 2) (l := [12, 8, 6]) (hc := (hrn _)) (h := ?_) | refine dcA (i := 13) (l := [8, 6]) (hc := (hx1 _)) (h := ?_) | refine dcA (i := 13) (l := [8, 6]) (hc := (hx2 _)) (h := ?_) | refine dcA (i := 4) (l := [1]) (hc := (hal _)) (h := ?_)
     | (with_reducible refine isC ?_); first | refine ctA (h := ?_) | refine cfA (h := ?_) | refine cdA (h1 := fun _ => ?_) (h0 := fun _ => ?_) | refine cbA (h1 := fun _ => ?_) (h0 := fun _ => ?_)
     | (with_reducible refine isR ?_); first
       | refine Ev.drawn (by decide +kernel) (l := [0, 1, 4, 5, 6, 7, 8, 11, 12, 2, 3, 9, 10, 13, 14, 15]) (by decide +kernel) ?_
       | refine Ev.drawn (by decide +kernel) (l := [0, 1, 2, 3, 4, 5]) (by decide +kernel) ?_
     | with_reducible first | refine Ev.seq ?_ | refine Ev.ops ?_ | refine NxE ?_ | refine BxN ?_ | refine BxX ?_ | refine NxX ?_ | refine NxR ?_ | refine BxR ?_ | refine Ev.block ?_ | refine Ev.skip ?_ | refine Ev.exit ?_ | refine Ev.ret ?_ | refine EvOps.nil ?_ | refine EvPlan.nil ?_
     | (with_reducible refine BxO ?_ ?_; · decide)
     )
    all_goals first
      | rw [if_pos (by omega)]
      | rw [if_neg (by omega)]
    all_goals refine lfA (rl := [.tmp 2]) rfl (hv := by
      simp only [packV, strip, stripAgg, stripCell, List.map_cons, List.map_nil]
      first | done | rfl | (simp only [List.append_assoc, List.cons_append, List.nil_append]; first | done | rfl)) (hp := rfl)
  have k3 : decide (k = 3) = false := by simp [h3]
  by_cases h4 : k = 4
  · subst h4
    have hn1 : ps.length = 1 := by unfold nodeP at hnode; omega
    obtain ⟨q, hq0, hqm, rfl⟩ := first_of hn1
    have hih := ih q hqm
    have hql := hlp q hqm
    have hqn := hparts q hqm
    have htx : txE (.mk 4 f o v m z [q]) = 33 :: brT [3, 5, 6] q := by rw [txE, if_neg (by decide), if_neg (by decide), if_neg (by decide), if_pos rfl, first_br (q := q) rfl]
    rw [htx] at htl ⊢
    obtain ⟨qk, qf, qo, qv, qm, qz, qs⟩ := q
    have hqk : qk = 1 ∨ qk = 2 ∨ qk = 3 ∨ qk = 4 ∨ qk = 5 ∨ qk = 6 := by
      have := (okE_parts hqn).2.1
      unfold nodeP at this; omega
    have bA : (qk = 1 ∨ qk = 2 ∨ qk = 4) → brT [3, 5, 6] (.mk qk qf qo qv qm qz qs) = txE (.mk qk qf qo qv qm qz qs) := fun h => by
      unfold brT; rw [if_neg (by show ¬ qk ∈ ([3, 5, 6] : List Int); simp; omega)]
    have bB : ¬ (qk = 1 ∨ qk = 2 ∨ qk = 4) → brT [3, 5, 6] (.mk qk qf qo qv qm qz qs) = 40 :: (txE (.mk qk qf qo qv qm qz qs) ++ [41]) := fun h => by
      unfold brT; rw [if_pos (by show qk ∈ ([3, 5, 6] : List Int); simp; omega)]
    clear htx htl hle
    generalize brT [3, 5, 6] (.mk qk qf qo qv qm qz qs) = Y at bA bB ⊢
    generalize txE (.mk qk qf qo qv qm qz qs) = X at hih hql bA bB
    rw [E.c] at hih
    have hcs : E.cs [.mk qk qf qo qv qm qz qs] = [.agg [.int .i64 qk, .int .i64 qf, .int .i64 qo, .int .u64 qv, .int .u64 qm, .sl (tipB qz) (E.cs qs)]] := by rw [E.cs, E.cs, E.c]
    rw [hcs] at a0
    have ex := And.intro @a0 (And.intro @hpB (And.intro @hpE (And.intro @zvR @lenA)))
    repeat' (first
     | (with_reducible refine isO ?_); first | refine mvA (h := ?_) | refine asA (h := ?_) | refine quA (h := ?_) | refine wnA (h := ?_) | refine caA (hc := (hih _)) (h := ?_)
     | (with_reducible refine isG ?_); first | refine stA (h := ?_) | refine srA (h := ?_) | refine swA (h := ?_) | refine s1A (h := ?_) | refine s0A (h := ?_) | refine sgA (h1 := fun _ => ?_) (h0 := fun _ => ?_) | refine sbA (h1 := fun _ => ?_) (h0 := fun _ => ?_)
     | (with_reducible refine isP ?_); first | refine dqA (h := ?_)
     | (with_reducible refine isC ?_); first | refine ctA (h := ?_) | refine cfA (h := ?_) | refine cdA (h1 := fun _ => ?_) (h0 := fun _ => ?_) | refine cbA (h1 := fun _ => ?_) (h0 := fun _ => ?_)
     | (with_reducible refine isR ?_); first
       | refine Ev.drawn (by decide +kernel) (l := [0, 1, 4, 5, 6, 7, 8, 11, 12, 2, 3, 9, 10, 13, 14, 15]) (by decide +kernel) ?_
       | refine Ev.drawn (by decide +kernel) (l := [0, 1, 2, 3, 4, 5]) (by decide +kernel) ?_
     | with_reducible first | refine Ev.seq ?_ | refine Ev.ops ?_ | refine NxE ?_ | refine BxN ?_ | refine BxX ?_ | refine NxX ?_ | refine NxR ?_ | refine BxR ?_ | refine Ev.block ?_ | refine Ev.skip ?_ | refine Ev.exit ?_ | refine Ev.ret ?_ | refine EvOps.nil ?_ | refine EvPlan.nil ?_
     | (with_reducible refine BxO ?_ ?_; · decide)
     )
    all_goals first
      | rw [bA (by omega)]
      | rw [bB (by omega)]
    all_goals refine lfA (rl := [.tmp 2]) rfl (hv := by
      simp only [packV, strip, stripAgg, stripCell, List.map_cons, List.map_nil]
      first | done | rfl) (hp := rfl)
  have k4 : decide (k = 4) = false := by simp [h4]
  have t1 : k = 1 → txE (.mk k f o v m z ps) = [49] := fun h => by rw [txE, if_pos h]
  have t2 : k = 2 → txE (.mk k f o v m z ps) = [48] := fun h => by rw [txE, if_neg (by omega), if_pos h]
  by_cases h12 : k = 1 ∨ k = 2
  · skip
    have ex := And.intro @a0 (And.intro @hcl (And.intro @hso (And.intro @hpB (And.intro @hpE (And.intro @zvR (And.intro @k3 @k4))))))
    repeat' (first
     | (with_reducible refine isO ?_); first | refine mvA (h := ?_) | refine asA (h := ?_) | refine quA (h := ?_) | refine wnA (h := ?_)
     | (with_reducible refine isG ?_); first | refine stA (h := ?_) | refine srA (h := ?_) | refine swA (h := ?_) | refine s1A (h := ?_) | refine s0A (h := ?_) | refine sgA (h1 := fun _ => ?_) (h0 := fun _ => ?_) | refine sbA (h1 := fun _ => ?_) (h0 := fun _ => ?_)
     | (with_reducible refine isP ?_); first | refine dqA (h := ?_)
     | (with_reducible refine isC ?_); first | refine ctA (h := ?_) | refine cfA (h := ?_) | refine cdA (h1 := fun _ => ?_) (h0 := fun _ => ?_) | refine cbA (h1 := fun _ => ?_) (h0 := fun _ => ?_)
     | (with_reducible refine isR ?_); first
       | refine Ev.drawn (by decide +kernel) (l := [0, 1, 4, 5, 6, 7, 8, 11, 12, 2, 3, 9, 10, 13, 14, 15]) (by decide +kernel) ?_
       | refine Ev.drawn (by decide +kernel) (l := [0, 1, 2, 3, 4, 5]) (by decide +kernel) ?_
     | with_reducible first | refine Ev.seq ?_ | refine Ev.ops ?_ | refine NxE ?_ | refine BxN ?_ | refine BxX ?_ | refine NxX ?_ | refine NxR ?_ | refine BxR ?_ | refine Ev.block ?_ | refine Ev.skip ?_ | refine Ev.exit ?_ | refine Ev.ret ?_ | refine EvOps.nil ?_ | refine EvPlan.nil ?_
     | (with_reducible refine BxO ?_ ?_; · decide)
     )
    · rw [t1 (by omega)]
      refine lfA (rl := [.tmp 2]) rfl (hv := by
      simp only [packV, strip, stripAgg, stripCell, List.map_cons, List.map_nil]
      first | done | rfl) (hp := rfl)
    · rw [t2 (by omega)]
      refine lfA (rl := [.tmp 2]) rfl (hv := by
      simp only [packV, strip, stripAgg, stripCell, List.map_cons, List.map_nil]
      first | done | rfl) (hp := rfl)
    all_goals (exfalso; omega)
  have h56 : k = 5 ∨ k = 6 := by unfold nodeP at hnode; omega
  obtain ⟨sep, hsep, hsd⟩ : ∃ sep : List UInt8, sep.length = 4 ∧ txE (.mk k f o v m z ps) = Lib.join (ps.map (brT [5, 6])) sep ∧ ((k = 5 ∧ sep = [32, 38, 38, 32]) ∨ (k = 6 ∧ sep = [32, 124, 124, 32])) := by
    rcases h56 with rfl | rfl
    · exact ⟨[32, 38, 38, 32], rfl, by rw [txE, if_neg (by omega), if_neg (by omega), if_neg (by omega), if_neg (by omega), txEs_map]; rfl, .inl ⟨rfl, rfl⟩⟩
    · exact ⟨[32, 124, 124, 32], rfl, by rw [txE, if_neg (by omega), if_neg (by omega), if_neg (by omega), if_neg (by omega), txEs_map]; rfl, .inr ⟨rfl, rfl⟩⟩
  obtain ⟨htx, hsd⟩ := hsd
  rw [htx] at htl ⊢
  clear t1 t2 htx h12
  have hap0 : ps.map (brT [5, 6]) ≠ [] := by
    intro h
    have := congrArg List.length h
    rw [List.length_map, List.length_nil] at this
    unfold nodeP at hnode; omega
  rcases hsd with ⟨rfl, hs⟩ | ⟨rfl, hs⟩
  all_goals
    have ex := And.intro @a0 (And.intro @hcl (And.intro @hso (And.intro @hpB (And.intro @hpE @zvR))))
    repeat' (first
     | (with_reducible refine isO ?_); first | refine mvA (h := ?_) | refine asA (h := ?_) | refine quA (h := ?_) | refine wnA (h := ?_)
     | (with_reducible refine isG ?_); first | refine stA (h := ?_) | refine srA (h := ?_) | refine swA (h := ?_) | refine s1A (h := ?_) | refine s0A (h := ?_) | refine sgA (h1 := fun _ => ?_) (h0 := fun _ => ?_) | refine sbA (h1 := fun _ => ?_) (h0 := fun _ => ?_)
     | (with_reducible refine isP ?_); first | refine dqA (h := ?_)
     | (with_reducible refine isC ?_); first | refine ctA (h := ?_) | refine cfA (h := ?_) | refine cdA (h1 := fun _ => ?_) (h0 := fun _ => ?_) | refine cbA (h1 := fun _ => ?_) (h0 := fun _ => ?_)
     | (with_reducible refine isR ?_); first
       | refine Ev.drawn (by decide +kernel) (l := [0, 1, 4, 5, 6, 7, 8, 11, 12, 2, 3, 9, 10, 13, 14, 15]) (by decide +kernel) ?_
       | refine Ev.drawn (by decide +kernel) (l := [0, 1, 2, 3, 4, 5]) (by decide +kernel) ?_
     | with_reducible first | refine Ev.seq ?_ | refine Ev.ops ?_ | refine NxE ?_ | refine BxN ?_ | refine BxX ?_ | refine NxX ?_ | refine NxR ?_ | refine BxR ?_ | refine Ev.block ?_ | refine Ev.skip ?_ | refine Ev.exit ?_ | refine Ev.ret ?_ | refine EvOps.nil ?_ | refine EvPlan.nil ?_
     | (with_reducible refine BxO ?_ ?_; · decide)
     )
    refine loopT (fun r t st => ∃ (i : Nat) (K : Int), r = ps.length - i ∧ i ≤ ps.length ∧ tget t 1 = .ptr 0 0 ∧ tget t 5 = .str sep ∧ tget t 6 = .str (Lib.join ((ps.map (brT [5, 6])).take i) sep) ∧ tget t 7 = .int .i64 (i : Nat) ∧ st = ⟨[(0, .cells [.int .i64 K, .int .i64 f, .int .i64 o, .int .u64 v, .int .u64 m, .sl (tipB z) (E.cs ps)])], 1⟩) (n := ps.length) ?_ ?_
    · refine ⟨0, _, by omega, by omega, ?_, ?_, ?_, ?_, rfl⟩
      · simp only [↓evP, ↓tgP, ↓reduceIte, Nat.reduceEqDiff, reduceCtorEq, List.map_cons, List.map_nil, List.nil_append, List.append_nil, List.toList_toArray, a0]
      · simp only [↓evP, ↓tgP, ↓reduceIte, Nat.reduceEqDiff, reduceCtorEq, List.map_cons, List.map_nil, List.nil_append, List.append_nil, List.toList_toArray, a0]; rw [hs]
      · simp only [↓evP, ↓tgP, ↓reduceIte, Nat.reduceEqDiff, reduceCtorEq, List.map_cons, List.map_nil, List.nil_append, List.append_nil, List.toList_toArray, a0]; rfl
      · simp only [↓evP, ↓tgP, ↓reduceIte, Nat.reduceEqDiff, reduceCtorEq, List.map_cons, List.map_nil, List.nil_append, List.append_nil, List.toList_toArray, a0]; rfl
    clear a0
    rintro r t st ⟨i, K, hr, hi, c1, c5, c6, c7, rfl⟩
    rcases Nat.lt_or_ge i ps.length with hlt | hge
    · have hlt3 : decide ((i : Int) < (ps.length : Int)) = true := by simp; omega
      obtain ⟨qk, qf, qo, qv, qm, qz, qs, hq, hqc, hqm⟩ := part_at hlt
      have hih := ih _ hqm
      have hql := hlp _ hqm
      have hqj : (ps.map (brT [5, 6]))[i]? = some (brT [5, 6] (.mk qk qf qo qv qm qz qs)) := by rw [List.getElem?_map, hq]; rfl
      have htk : (ps.map (brT [5, 6])).take (i + 1) = (ps.map (brT [5, 6])).take i ++ [brT [5, 6] (.mk qk qf qo qv qm qz qs)] := by rw [List.take_add_one, hqj]; rfl
      have bA : (qk = 5 ∨ qk = 6) → brT [5, 6] (.mk qk qf qo qv qm qz qs) = 40 :: (txE (.mk qk qf qo qv qm qz qs) ++ [41]) := fun h => br_yes h
      have bB : ¬ (qk = 5 ∨ qk = 6) → brT [5, 6] (.mk qk qf qo qv qm qz qs) = txE (.mk qk qf qo qv qm qz qs) := fun h => br_no h
      have hjl := Nat.le_trans (join_take_le (l := ps.map (brT [5, 6])) i sep) htl
      have hjn : i ≠ 0 → Lib.join ((ps.map (brT [5, 6])).take (i + 1)) sep = Lib.join ((ps.map (brT [5, 6])).take i) sep ++ sep ++ brT [5, 6] (.mk qk qf qo qv qm qz qs) := fun h => by
        rw [htk, join_snoc]
        intro hn
        have := congrArg List.length hn
        rw [List.length_take, List.length_map, List.length_nil] at this; omega
      have hj0 : i = 0 → Lib.join ((ps.map (brT [5, 6])).take (i + 1)) sep = brT [5, 6] (.mk qk qf qo qv qm qz qs) := fun h => by
        rw [htk, h, List.take_zero, List.nil_append, Lib.join_one]
      have hz0 : i = 0 → Lib.join ((ps.map (brT [5, 6])).take i) sep = [] := fun h => by rw [h, List.take_zero, Lib.join_nil]
      rw [E.c] at hih
      generalize brT [5, 6] (.mk qk qf qo qv qm qz qs) = Y at bA bB hjn hj0
      generalize txE (.mk qk qf qo qv qm qz qs) = X at hih hql bA bB
      generalize hJN : Lib.join ((ps.map (brT [5, 6])).take (i + 1)) sep = JN at hjn hj0
      generalize Lib.join ((ps.map (brT [5, 6])).take i) sep = J at c6 hjl hjn hz0
      have hjs : J.length + sep.length ≤ 100000000000100 := by omega
      clear htk hqj hnode hparts hap0 htl hle ih hlp
      have ex := And.intro @c1 (And.intro @c5 (And.intro @c6 (And.intro @c7 (And.intro @hcl (And.intro @hso (And.intro @hqc (And.intro @hpB (And.intro @hpE (And.intro @zvR (And.intro @hlt3 (And.intro @lenA @hsep)))))))))))
      repeat' (first
       | (with_reducible refine isO ?_); first | refine mvA (h := ?_) | refine asA (h := ?_) | refine quA (h := ?_) | refine wnA (h := ?_) | refine caA (hc := (hih _)) (h := ?_)
       | (with_reducible refine isG ?_); first | refine stA (h := ?_) | refine srA (h := ?_) | refine swA (h := ?_) | refine s1A (h := ?_) | refine s0A (h := ?_) | refine sgA (h1 := fun _ => ?_) (h0 := fun _ => ?_) | refine sbA (h1 := fun _ => ?_) (h0 := fun _ => ?_)
       | (with_reducible refine isP ?_); first | refine dqA (h := ?_)
       | (with_reducible refine isC ?_); first | refine ctA (h := ?_) | refine cfA (h := ?_) | refine cdA (h1 := fun _ => ?_) (h0 := fun _ => ?_) | refine cbA (h1 := fun _ => ?_) (h0 := fun _ => ?_)
       | (with_reducible refine isR ?_); first
         | refine Ev.drawn (by decide +kernel) (l := [0, 1, 4, 5, 6, 7, 8, 11, 12, 2, 3, 9, 10, 13, 14, 15]) (by decide +kernel) ?_
         | refine Ev.drawn (by decide +kernel) (l := [0, 1, 2, 3, 4, 5]) (by decide +kernel) ?_
       | with_reducible first | refine Ev.seq ?_ | refine Ev.ops ?_ | refine NxE ?_ | refine BxN ?_ | refine BxX ?_ | refine NxX ?_ | refine NxR ?_ | refine BxR ?_ | refine Ev.block ?_ | refine Ev.skip ?_ | refine Ev.exit ?_ | refine Ev.ret ?_ | refine EvOps.nil ?_ | refine EvPlan.nil ?_
       | (with_reducible refine BxO ?_ ?_; · decide)
       )
      all_goals refine ⟨ps.length - (i + 1), by omega, rfl, i + 1, K, rfl, by omega, ?_, ?_, ?_, ?_, rfl⟩
      all_goals first
        | (simp only [↓evP, ↓tgP, ↓reduceIte, Nat.reduceEqDiff, reduceCtorEq, List.map_cons, List.map_nil, List.nil_append, List.append_nil, List.toList_toArray, c1]; done)
        | (simp only [↓evP, ↓tgP, ↓reduceIte, Nat.reduceEqDiff, reduceCtorEq, List.map_cons, List.map_nil, List.nil_append, List.append_nil, List.toList_toArray, c5]; done)
        | (simp only [↓evP, ↓tgP, ↓reduceIte, Nat.reduceEqDiff, reduceCtorEq, List.map_cons, List.map_nil, List.nil_append, List.append_nil, List.toList_toArray, c7]; rfl)
        | skip
      all_goals
        simp only [↓evP, ↓tgP, ↓reduceIte, Nat.reduceEqDiff, reduceCtorEq, List.map_cons, List.map_nil, List.nil_append, List.append_nil, List.toList_toArray, c6]
        rw [hJN]
      all_goals first
        | (rw [hjn (by omega), bA (by omega)]; simp only [List.append_assoc, List.cons_append, List.nil_append]; done)
        | (rw [hjn (by omega), bB (by omega)]; done)
        | (rw [hz0 (by omega), hj0 (by omega), bA (by omega)]; rfl)
        | (rw [hz0 (by omega), hj0 (by omega), bB (by omega)]; rfl)
    · obtain rfl : i = ps.length := by omega
      have hlt3 : decide ((ps.length : Int) < (ps.length : Int)) = false := by simp
      rw [List.take_of_length_le (by rw [List.length_map]; omega)] at c6
      have ex := And.intro @c1 (And.intro @c5 (And.intro @c6 (And.intro @c7 (And.intro @hcl (And.intro @hso (And.intro @hpB (And.intro @hpE (And.intro @zvR @hlt3))))))))
      repeat' (first
       | (with_reducible refine isO ?_); first | refine mvA (h := ?_) | refine asA (h := ?_) | refine quA (h := ?_) | refine wnA (h := ?_)
       | (with_reducible refine isG ?_); first | refine stA (h := ?_) | refine srA (h := ?_) | refine swA (h := ?_) | refine s1A (h := ?_) | refine s0A (h := ?_) | refine sgA (h1 := fun _ => ?_) (h0 := fun _ => ?_) | refine sbA (h1 := fun _ => ?_) (h0 := fun _ => ?_)
       | (with_reducible refine isP ?_); first | refine dqA (h := ?_)
       | (with_reducible refine isC ?_); first | refine ctA (h := ?_) | refine cfA (h := ?_) | refine cdA (h1 := fun _ => ?_) (h0 := fun _ => ?_) | refine cbA (h1 := fun _ => ?_) (h0 := fun _ => ?_)
       | (with_reducible refine isR ?_); first
         | refine Ev.drawn (by decide +kernel) (l := [0, 1, 4, 5, 6, 7, 8, 11, 12, 2, 3, 9, 10, 13, 14, 15]) (by decide +kernel) ?_
         | refine Ev.drawn (by decide +kernel) (l := [0, 1, 2, 3, 4, 5]) (by decide +kernel) ?_
       | with_reducible first | refine Ev.seq ?_ | refine Ev.ops ?_ | refine NxE ?_ | refine BxN ?_ | refine BxX ?_ | refine NxX ?_ | refine NxR ?_ | refine BxR ?_ | refine Ev.block ?_ | refine Ev.skip ?_ | refine Ev.exit ?_ | refine Ev.ret ?_ | refine EvOps.nil ?_ | refine EvPlan.nil ?_
       | (with_reducible refine BxO ?_ ?_; · decide)
       )
      refine lfA (rl := [.tmp 2]) rfl (hv := by
      simp only [packV, strip, stripAgg, stripCell, List.map_cons, List.map_nil]
      first | done | rfl) (hp := rfl)
theorem refS : ∀ e : E, e.Ok → ∀ d, okE d e = true → ndE e ≤ 1099511627776 → ∀ st, FnS cx 23 [e.c] st (.str (txE e)) st := by
  refine E.ind fun k f o v m z ps ih => ?_
  intro hok d hd hnd st
  have hokp : ∀ p ∈ ps, p.Ok := by cases hok; assumption
  have hdp := (okE_parts hd).2.2
  exact refG k f o v m z ps hok d hd hnd (fun q hq => ih q hq (hokp q hq) _ (hdp q hq) (by have := nd_mem hq; rw [ndE] at hnd; omega)) st
end Go.Proofs.YtklcmgodhpediaaGreatDoor.P
