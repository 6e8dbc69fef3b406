/- What stands behind a bang or a bracket. -/
import Derived.Test.YtklcmgodhpediaaGreatDoorExK4
set_option linter.unusedSimpArgs false
set_option linter.unusedVariables false
set_option maxRecDepth 100000
namespace Go.Proofs.YtklcmgodhpediaaGreatDoor.K
open Go Go.Vm Go.Proofs Go.Proofs.YtklcmgodhpediaaGreatDoor

section
variable {C : Cfg} {g : Operand} {args : Array Operand} {ats : Array TypeId} {k : FuncId} {fi ca av : List V} {ops : Array Oper} {rest : List Oper} {t : List (Nat × V)} {dd : List (V × List V)} {st : St} {Q : Fr → St → Prop} {type : TypeId} {pos : String} {after : Array Edge}
theorem deA (hg : evalO C ⟨t, dd⟩ g = .func (.func k) fi ca := by simp only [↓evP, ↓tgP, ↓reduceIte, Nat.reduceEqDiff, reduceCtorEq, List.map_cons, List.map_nil, List.nil_append, List.append_nil, List.toList_toArray, Int.reduceLE, Int.reduceLT, Int.reduceEq, Int.reduceNe, Int.reduceGT, Int.reduceGE, decide_true, decide_false, ex]; with_reducible rfl) (ha : fi ++ args.toList.map (evalO C ⟨t, dd⟩) = av := by (simp (disch := (first | assumption | omega)) only [↓opE, ↓evP, stE, binE, ldE, ↓tgP, ↓reduceIte, clE, ncE, szE, hgE, intBin, shiftBin, strBin, unV, indexAddrV, indexV, lenV, partV, isAggT, sliceV, boundsV, bndV, asIntV, fieldAddrV, fieldV, putAt, nilCheckV, stripAgg, stripCell, decide_eq_true_eq, beqD, bneD, notD, beqS, if_true, if_false, ite_true, ite_false, Bool.true_eq_false, Bool.false_eq_true, Nat.reduceEqDiff, Nat.reduceBEq, Nat.reduceAdd, Nat.reduceSub, Nat.reduceMul, Nat.min_def, Nat.reducePow, Nat.reduceLeDiff, Nat.reduceLT, Int.reduceEq, Int.reduceNe, Int.reduceLT, Int.reduceLE, Int.reduceToNat, Int.reduceAdd, Int.reduceSub, Int.reduceMul, Int.reducePow, Int.reduceNeg, Option.map_some, Option.map_none, Option.bind_some, Option.getD_some, Option.getD_none, ofBytes_length, ofBytes_get, ofBytes_take, ofBytes_drop, Int.toNat_natCast, Int.natCast_nonneg, and_self, true_and, and_true, List.getElem?_cons_zero, List.getElem?_cons_succ, decide_true, decide_false, Bool.not_true, Bool.not_false, List.getElem_toArray, List.getElem?_toArray, List.getElem_cons_succ, List.getElem_cons_zero, List.toList_toArray, List.map_cons, List.map_nil, List.take_succ_cons, List.take_zero, List.drop_succ_cons, List.drop_zero, List.length_cons, List.length_nil, List.nil_append, List.cons_append, List.append_nil, Nat.le_refl, Nat.zero_add, Nat.mul_one, Nat.add_zero, Nat.zero_lt_one, List.length_singleton, IntKind.bits, reduceCtorEq, not_true_eq_false, not_false_eq_true, ne_eq, if_pos, if_neg, wI64, wI32, wU8, wU16, wU32, wU64, Int.emod_eq_of_lt, Int.fdiv_eq_ediv_of_nonneg, Int.tdiv_eq_ediv_of_nonneg, Int.tmod_eq_emod_of_nonneg, hdel, tyE, tyX, cvE, bdE, ↓exd, ex]); first | done | with_reducible rfl) (h : EvOps C ops rest ⟨t, (.func (.func k) [] ca, av) :: dd⟩ st Q) :
    EvOps C ops ({ dst := none, op := .defer { callee := .value g, args := args, argTypes := ats }, type := type, pos := pos, after := after, guard := none } :: rest) ⟨t, dd⟩ st Q := EvOps.defer rfl hg (by rw [ha]; exact h)
end
section
variable {C : Cfg} {k : FuncId} {fn : Func} {c : Code} {args : List V} {st st' st2 : St} {v : V} {vs : List V} {rl : List ResultVar} {n0 : Nat} {t : List (Nat × V)}
theorem goDS (hf : C.P.funcs[k]? = some fn) (hb : fn.body = some c) (hl : decide (args.length ≤ fn.ntmps) = true)
    (h : ∀ t : List (Nat × V), (∀ i v, args[i]? = some v → tget t i = v) → Ev C c ⟨t, []⟩ st (fun e f' st1 => (e = .normal ∨ e = .ret) ∧ LvD C fn k st.n (fun v1 st2 => v1 = v ∧ st2 = st') f'.t f'.d st1)) : FnS C k args st v st' :=
  ⟨Fn.ofD hf hb hl (h _ fun i v hv => frame0_get hv)⟩
theorem goD (hf : C.P.funcs[k]? = some fn) (hb : fn.body = some c) (hl : decide (args.length ≤ fn.ntmps) = true)
    (h : ∀ t : List (Nat × V), (∀ i v, args[i]? = some v → tget t i = v) → Ev C c ⟨t, []⟩ st (Lv C fn k st.n fun _ st1 => st1 = st')) : FnD C k args st (fun st1 => st1 = st') :=
  FnD.of hf hb hl (h _ fun i v hv => frame0_get hv)
theorem leafD {j : FuncId} {ca av : List V} {e : Ex} (he : e = .normal ∨ e = .ret) (hD : FnD C j (av ++ ca) st (fun st1 => st1 = st2)) (hrl : fn.results.toList = rl) (hr : resultsV C st2.H t rl = some vs := by simp (disch := (first | assumption | omega)) only [↓opE, ↓evP, stE, binE, ldE, ↓tgP, ↓reduceIte, clE, ncE, szE, hgE, intBin, shiftBin, strBin, unV, indexAddrV, indexV, lenV, partV, isAggT, sliceV, boundsV, bndV, asIntV, fieldAddrV, fieldV, putAt, nilCheckV, stripAgg, stripCell, decide_eq_true_eq, beqD, bneD, notD, beqS, if_true, if_false, ite_true, ite_false, Bool.true_eq_false, Bool.false_eq_true, Nat.reduceEqDiff, Nat.reduceBEq, Nat.reduceAdd, Nat.reduceSub, Nat.reduceMul, Nat.min_def, Nat.reducePow, Nat.reduceLeDiff, Nat.reduceLT, Int.reduceEq, Int.reduceNe, Int.reduceLT, Int.reduceLE, Int.reduceToNat, Int.reduceAdd, Int.reduceSub, Int.reduceMul, Int.reducePow, Int.reduceNeg, Option.map_some, Option.map_none, Option.bind_some, Option.getD_some, Option.getD_none, ofBytes_length, ofBytes_get, ofBytes_take, ofBytes_drop, Int.toNat_natCast, Int.natCast_nonneg, and_self, true_and, and_true, List.getElem?_cons_zero, List.getElem?_cons_succ, decide_true, decide_false, Bool.not_true, Bool.not_false, List.getElem_toArray, List.getElem?_toArray, List.getElem_cons_succ, List.getElem_cons_zero, List.toList_toArray, List.map_cons, List.map_nil, List.take_succ_cons, List.take_zero, List.drop_succ_cons, List.drop_zero, List.length_cons, List.length_nil, List.nil_append, List.cons_append, List.append_nil, Nat.le_refl, Nat.zero_add, Nat.mul_one, Nat.add_zero, Nat.zero_lt_one, List.length_singleton, IntKind.bits, reduceCtorEq, not_true_eq_false, not_false_eq_true, ne_eq, if_pos, if_neg, wI64, wI32, wU8, wU16, wU32, wU64, Int.emod_eq_of_lt, Int.fdiv_eq_ediv_of_nonneg, Int.tdiv_eq_ediv_of_nonneg, Int.tmod_eq_emod_of_nonneg, resultsV, hdel, tyE, tyX, cvE, bdE, ↓exd, ex]; with_reducible rfl)
    (hv : leaveV C k n0 (packV vs) st2 = (v, st')) : (e = .normal ∨ e = .ret) ∧ LvD C fn k n0 (fun v1 st3 => v1 = v ∧ st3 = st') t [(.func (.func j) [] ca, av)] st := by
  refine ⟨he, ⟨fun a b c => ?_⟩⟩
  have := hD.ex a b c
  refine ⟨this.1, fun g w0 base w args' h1 h2 h3 => (this.2 g w0 base w args' h1 h2 h3).mono fun e u w' => ?_⟩
  rintro ⟨rfl, v', st1, g', rfl, rfl, r⟩
  exact ⟨rfl, v', st1, g', rfl, ⟨vs, by rw [hrl]; exact hr, by rw [hv], by rw [hv]⟩, r⟩
theorem leafDn (hrl : fn.results.toList = rl) (hr : resultsV C st.H t rl = some vs := by simp (disch := (first | assumption | omega)) only [↓opE, ↓evP, stE, binE, ldE, ↓tgP, ↓reduceIte, clE, ncE, szE, hgE, intBin, shiftBin, strBin, unV, indexAddrV, indexV, lenV, partV, isAggT, sliceV, boundsV, bndV, asIntV, fieldAddrV, fieldV, putAt, nilCheckV, stripAgg, stripCell, decide_eq_true_eq, beqD, bneD, notD, beqS, if_true, if_false, ite_true, ite_false, Bool.true_eq_false, Bool.false_eq_true, Nat.reduceEqDiff, Nat.reduceBEq, Nat.reduceAdd, Nat.reduceSub, Nat.reduceMul, Nat.min_def, Nat.reducePow, Nat.reduceLeDiff, Nat.reduceLT, Int.reduceEq, Int.reduceNe, Int.reduceLT, Int.reduceLE, Int.reduceToNat, Int.reduceAdd, Int.reduceSub, Int.reduceMul, Int.reducePow, Int.reduceNeg, Option.map_some, Option.map_none, Option.bind_some, Option.getD_some, Option.getD_none, ofBytes_length, ofBytes_get, ofBytes_take, ofBytes_drop, Int.toNat_natCast, Int.natCast_nonneg, and_self, true_and, and_true, List.getElem?_cons_zero, List.getElem?_cons_succ, decide_true, decide_false, Bool.not_true, Bool.not_false, List.getElem_toArray, List.getElem?_toArray, List.getElem_cons_succ, List.getElem_cons_zero, List.toList_toArray, List.map_cons, List.map_nil, List.take_succ_cons, List.take_zero, List.drop_succ_cons, List.drop_zero, List.length_cons, List.length_nil, List.nil_append, List.cons_append, List.append_nil, Nat.le_refl, Nat.zero_add, Nat.mul_one, Nat.add_zero, Nat.zero_lt_one, List.length_singleton, IntKind.bits, reduceCtorEq, not_true_eq_false, not_false_eq_true, ne_eq, if_pos, if_neg, wI64, wI32, wU8, wU16, wU32, wU64, Int.emod_eq_of_lt, Int.fdiv_eq_ediv_of_nonneg, Int.tdiv_eq_ediv_of_nonneg, Int.tmod_eq_emod_of_nonneg, resultsV, hdel, tyE, tyX, cvE, bdE, ↓exd, ex]; with_reducible rfl) (hv : (leaveV C k n0 (packV vs) st).2 = st') : Lv C fn k n0 (fun _ st1 => st1 = st') .normal ⟨t, []⟩ st := ⟨rfl, vs, by rw [hrl]; exact hr, hv⟩
end

theorem upS {H : List (Nat × Ob)} {n c b : Nat} {l : List L.Tok} {d : Int} (hc : hget H c = some (.cells [.ptr b 0])) (hb : hget H b = some (.cells (rdC (l) (d + 1)))) (hl : Low n H) (hd : 0 ≤ d ∧ d < 32) : FnD cx 157 [.ptr c 0] ⟨H, n⟩ (fun st1 => st1 = ⟨hset H b (.cells (rdC (l) (d))), n⟩) := by
  have hbn := hl.lt hb
  have hw := hl.wn
  have e1 : d + 1 - 1 = d := by omega
  unfold rdC at *
  refine goD Tryz.func157 rfl rfl ?_
  intro t ht
  have a0 : tget t 0 = .ptr c 0 := ht 0 _ rfl
  clear ht
  have ex := And.intro @a0 (And.intro @hpB (And.intro @hpK (And.intro @zvE (And.intro @hb (And.intro @hc @e1)))))
  repeat' (first
   | (with_reducible refine isO ?_); first | refine mvA (h := ?_) | refine asA (h := ?_) | refine quA (h := ?_) | refine wnA (h := ?_)
   | (with_reducible refine isC ?_); first | refine ctA (h := ?_) | refine cfA (h := ?_) | refine cdA (h1 := fun _ => ?_) (h0 := fun _ => ?_) | refine cbA (h1 := fun _ => ?_) (h0 := fun _ => ?_)
   | with_reducible first | refine Ev.seq ?_ | refine Ev.ops ?_ | refine NxE ?_ | refine BxN ?_ | refine BxX ?_ | refine NxX ?_ | refine NxR ?_ | refine BxR ?_ | refine Ev.block ?_ | refine Ev.skip ?_ | refine Ev.exit ?_ | refine Ev.ret ?_ | refine EvOps.nil ?_ | refine EvPlan.nil ?_
   | (with_reducible refine BxO ?_ ?_; · decide)
   )
  refine leafDn (rl := []) rfl (hv := by
    simp only [leaveV, packV, strip, stripAgg, stripCell, List.map_cons, List.map_nil, show cx.grow 157 = false from rfl, show cx.keep 157 = false from rfl, show cx.frz 157 = false from rfl, if_false, if_true, Bool.false_eq_true]
    try simp (disch := omega) only [hdrop_ge, hdrop_hset, hw, ite_self, List.take_length]
    first | done | rfl)

theorem notS {H : List (Nat × Ob)} {n b : Nat} {nu a : Int} {l l' : List L.Tok} {d : Int} {e : E} (hb : hget H b = some (.cells (rdC (l) (d)))) (hl : Low n H) (hd : 0 ≤ d ∧ d < 32) (hp : PS 84 (d + 1) l l' e) (hz : e.z = false) :
    FnS cx 104 [.ptr b 0, L.Tok.v ⟨5, [33], nu, a⟩] ⟨H, n⟩ (E.mk 4 0 0 0 0 false [e]).c ⟨hset H b (.cells (rdC (l') (d))), n + 1 + 1 + 1⟩ := by
  have hbn := hl.lt hb
  have hw := hl.wn
  have hbb : ∀ x, hget (hset H b x) b = some x := fun x => by rw [hpK.2.1, hb]; rfl
  have hp1 := hp b (((n + 1 + 1, .cells [.int .i64 0, .int .i64 0, .int .i64 0, .int .u64 0, .int .u64 0, .sl .full []]) :: (n + 1, .cells [.int .i64 5, .str [33], .int .u64 nu, .int .i64 a]) :: (n, .cells [.ptr b 0]) :: hset H b (.cells (rdC (l) (d + 1))))) (n + 1 + 1 + 1) (fun p hp => by cases hp) (by simp (disch := omega) only [hpK, hbb]) (((((hl.set lowRd).le (by omega)).cons (by omega) (by simp only [lowO, lowL, lowV, Bool.and_true, decide_eq_true_eq]; omega)).cons (by omega) (by rfl)).cons (by omega) (by rfl))
  simp (disch := omega) only [hpK] at hp1
  have hbs := bsK hz
  have hup := fun x => upS (c := n) (b := b) (l := l') (d := d) (H := (n + 1 + 1, .cells x) :: (n + 1, .cells [.int .i64 5, .str [33], .int .u64 nu, .int .i64 a]) :: (n, .cells [.ptr b 0]) :: hset H b (.cells (rdC (l') (d + 1)))) (n := n + 1 + 1 + 1)
  have e2 : decide (d ≥ 32) = false := by simp; omega
  have hup2 : FnD cx 157 ([] ++ [.ptr n 0]) ⟨(n + 1 + 1, .cells [.int .i64 4, .int .i64 0, .int .i64 0, .int .u64 0, .int .u64 0, .sl .full [e.c]]) :: (n + 1, .cells [.int .i64 5, .str [33], .int .u64 nu, .int .i64 a]) :: (n, .cells [.ptr b 0]) :: hset H b (.cells (rdC (l') (d + 1))), n + 1 + 1 + 1⟩ (fun st1 => st1 = ⟨(n + 1 + 1, .cells [.int .i64 4, .int .i64 0, .int .i64 0, .int .u64 0, .int .u64 0, .sl .full [e.c]]) :: (n + 1, .cells [.int .i64 5, .str [33], .int .u64 nu, .int .i64 a]) :: (n, .cells [.ptr b 0]) :: hset H b (.cells (rdC (l') (d))), n + 1 + 1 + 1⟩) := by
    have h := hup [.int .i64 4, .int .i64 0, .int .i64 0, .int .u64 0, .int .u64 0, .sl .full [e.c]] (by simp (disch := omega) only [hpK]) (by simp (disch := omega) only [hpK, hbb]) (((((hl.set lowRd).le (by omega)).cons (by omega) (by simp only [lowO, lowL, lowV, Bool.and_true, decide_eq_true_eq]; omega)).cons (by omega) (by rfl)).cons (by omega) (by simp [lowO, lowL, lowV, lowT, lowE])) hd
    simp (disch := omega) only [hpK] at h
    exact h
  clear hup
  have hec : ∀ w : Bool, (E.mk 4 0 0 0 0 false [e]).c = .agg [.int .i64 4, .int .i64 0, .int .i64 0, .int .u64 0, .int .u64 0, .sl .none [e.c]] := fun _ => rfl
  rw [hec true]
  generalize hy : e.c = y at hp1 hbs hup2
  unfold rdC at *
  refine goDS Tryz.func104 rfl rfl ?_
  intro t ht
  have a0 : tget t 0 = .ptr b 0 := ht 0 _ rfl
  have a1 : tget t 1 = .agg [.int .i64 5, .str [33], .int .u64 nu, .int .i64 a] := ht 1 _ rfl
  clear ht
  have ex := And.intro @a0 (And.intro @a1 (And.intro @hpB (And.intro @hpK (And.intro @zvE (And.intro @hb (And.intro @hbb (And.intro @hbs @e2)))))))
  repeat' (first
   | (with_reducible refine isO ?_); first | refine mvA (h := ?_) | refine asA (h := ?_) | refine deA (h := ?_) | refine quA (h := ?_) | refine wnA (h := ?_) | refine caA (hc := hp1) (h := ?_)
   | (with_reducible refine isG ?_); first | refine stA (h := ?_) | refine srA (h := ?_) | refine swA (h := ?_) | refine s1A (h := ?_) | refine s0A (h := ?_) | refine sgA (h1 := fun _ => ?_) (h0 := fun _ => ?_) | refine sbA (h1 := fun _ => ?_) (h0 := fun _ => ?_)
   | (with_reducible refine isP ?_); first | refine dqA (h := ?_) | refine dnA (i := 8) (l := []) (h := ?_)
   | (with_reducible refine isC ?_); first | refine ctA (h := ?_) | refine cfA (h := ?_) | refine cdA (h1 := fun _ => ?_) (h0 := fun _ => ?_) | refine cbA (h1 := fun _ => ?_) (h0 := fun _ => ?_)
   | (with_reducible refine isR ?_); first
     | refine Ev.drawn (by decide +kernel) (l := [0, 1, 2, 3, 4, 5, 6, 7, 8]) (by decide +kernel) ?_
   | with_reducible first | refine Ev.seq ?_ | refine Ev.ops ?_ | refine NxE ?_ | refine BxN ?_ | refine BxX ?_ | refine NxX ?_ | refine NxR ?_ | refine BxR ?_ | refine Ev.block ?_ | refine Ev.skip ?_ | refine Ev.exit ?_ | refine Ev.ret ?_ | refine EvOps.nil ?_ | refine EvPlan.nil ?_
   | (with_reducible refine BxO ?_ ?_; · decide)
   )
  refine leafD (rl := [.cell 4 25]) (.inr rfl) hup2 rfl (hv := by
    simp only [leaveV, packV, strip, stripAgg, stripCell, List.map_cons, List.map_nil, show cx.grow 104 = false from rfl, show cx.keep 104 = false from rfl, show cx.frz 104 = false from rfl, if_false, if_true, Bool.false_eq_true]
    try simp (disch := omega) only [hdrop_ge, hdrop_hset, hw, ite_self, List.take_length]
    first | done | rfl)

theorem brS {H : List (Nat × Ob)} {n b : Nat} {nu a nu2 a2 : Int} {l l' : List L.Tok} {d : Int} {e : E} (hb : hget H b = some (.cells (rdC (l) (d)))) (hl : Low n H) (hd : 0 ≤ d ∧ d < 32) (hp : PS 27 (d + 1) l (⟨5, [41], nu2, a2⟩ :: l') e) (hz : e.z = false) :
    FnS cx 104 [.ptr b 0, L.Tok.v ⟨5, [40], nu, a⟩] ⟨H, n⟩ e.c ⟨hset H b (.cells (rdC (l') (d))), n + 1 + 1 + 1 + 1⟩ := by
  have hbn := hl.lt hb
  have hw := hl.wn
  have hbb : ∀ x, hget (hset H b x) b = some x := fun x => by rw [hpK.2.1, hb]; rfl
  have hp1 := hp b (((n + 1 + 1, .cells [.int .i64 0, .int .i64 0, .int .i64 0, .int .u64 0, .int .u64 0, .sl .full []]) :: (n + 1, .cells [.int .i64 5, .str [40], .int .u64 nu, .int .i64 a]) :: (n, .cells [.ptr b 0]) :: hset H b (.cells (rdC (l) (d + 1))))) (n + 1 + 1 + 1) (fun p hp => by cases hp) (by simp (disch := omega) only [hpK, hbb]) (((((hl.set lowRd).le (by omega)).cons (by omega) (by simp only [lowO, lowL, lowV, Bool.and_true, decide_eq_true_eq]; omega)).cons (by omega) (by rfl)).cons (by omega) (by rfl))
  simp (disch := omega) only [hpK] at hp1
  obtain ⟨k, f, o, v, m, z, ps⟩ := e
  have hz' : z = false := hz
  subst hz'
  have hlo : ∀ {N : Nat}, lowO N (.cells [.int .i64 k, .int .i64 f, .int .i64 o, .int .u64 v, .int .u64 m, .sl .none (E.cs ps)]) := fun {N} => by
    have := lowE (n := N) (.mk k f o v m false ps)
    exact this
  have hok : FnS cx 28 [.ptr b 0] ⟨(n + 1 + 1 + 1, .cells [.int .i64 k, .int .i64 f, .int .i64 o, .int .u64 v, .int .u64 m, .sl .none (E.cs ps)]) :: (n + 1 + 1, .cells [.int .i64 0, .int .i64 0, .int .i64 0, .int .u64 0, .int .u64 0, .sl .full []]) :: (n + 1, .cells [.int .i64 5, .str [40], .int .u64 nu, .int .i64 a]) :: (n, .cells [.ptr b 0]) :: hset H b (.cells (rdC (⟨5, [41], nu2, a2⟩ :: l') (d + 1))), n + 1 + 1 + 1 + 1⟩ (.bool true) ⟨(n + 1 + 1 + 1, .cells [.int .i64 k, .int .i64 f, .int .i64 o, .int .u64 v, .int .u64 m, .sl .none (E.cs ps)]) :: (n + 1 + 1, .cells [.int .i64 0, .int .i64 0, .int .i64 0, .int .u64 0, .int .u64 0, .sl .full []]) :: (n + 1, .cells [.int .i64 5, .str [40], .int .u64 nu, .int .i64 a]) :: (n, .cells [.ptr b 0]) :: hset H b (.cells (rdC (⟨5, [41], nu2, a2⟩ :: l') (d + 1))), n + 1 + 1 + 1 + 1⟩ := okS (l := ⟨5, [41], nu2, a2⟩ :: l') (d := d + 1) (by simp (disch := omega) only [hpK, hbb])
  have hyes : FnS cx 83 [.ptr b 0, .str [41]] ⟨(n + 1 + 1 + 1, .cells [.int .i64 k, .int .i64 f, .int .i64 o, .int .u64 v, .int .u64 m, .sl .none (E.cs ps)]) :: (n + 1 + 1, .cells [.int .i64 0, .int .i64 0, .int .i64 0, .int .u64 0, .int .u64 0, .sl .full []]) :: (n + 1, .cells [.int .i64 5, .str [40], .int .u64 nu, .int .i64 a]) :: (n, .cells [.ptr b 0]) :: hset H b (.cells (rdC (⟨5, [41], nu2, a2⟩ :: l') (d + 1))), n + 1 + 1 + 1 + 1⟩ (.bool true) ⟨(n + 1 + 1 + 1, .cells [.int .i64 k, .int .i64 f, .int .i64 o, .int .u64 v, .int .u64 m, .sl .none (E.cs ps)]) :: (n + 1 + 1, .cells [.int .i64 0, .int .i64 0, .int .i64 0, .int .u64 0, .int .u64 0, .sl .full []]) :: (n + 1, .cells [.int .i64 5, .str [40], .int .u64 nu, .int .i64 a]) :: (n, .cells [.ptr b 0]) :: hset H b (.cells (rdC (l') (d + 1))), n + 1 + 1 + 1 + 1⟩ := by
    have h := opY (b := b) (tx := [41]) (nu := nu2) (a := a2) (l := l') (d := d + 1) (H := (n + 1 + 1 + 1, .cells [.int .i64 k, .int .i64 f, .int .i64 o, .int .u64 v, .int .u64 m, .sl .none (E.cs ps)]) :: (n + 1 + 1, .cells [.int .i64 0, .int .i64 0, .int .i64 0, .int .u64 0, .int .u64 0, .sl .full []]) :: (n + 1, .cells [.int .i64 5, .str [40], .int .u64 nu, .int .i64 a]) :: (n, .cells [.ptr b 0]) :: hset H b (.cells (rdC (⟨5, [41], nu2, a2⟩ :: l') (d + 1)))) (n := n + 1 + 1 + 1 + 1) (by simp (disch := omega) only [hpK, hbb]) ((((((hl.set lowRd).le (by omega)).cons (by omega) (by simp only [lowO, lowL, lowV, Bool.and_true, decide_eq_true_eq]; omega)).cons (by omega) (by rfl)).cons (by omega) (by rfl)).cons (by omega) hlo)
    simp (disch := omega) only [hpK] at h
    exact h
  have hup2 : FnD cx 157 ([] ++ [.ptr n 0]) ⟨(n + 1 + 1 + 1, .cells [.int .i64 k, .int .i64 f, .int .i64 o, .int .u64 v, .int .u64 m, .sl .none (E.cs ps)]) :: (n + 1 + 1, .cells [.int .i64 k, .int .i64 f, .int .i64 o, .int .u64 v, .int .u64 m, .sl .none (E.cs ps)]) :: (n + 1, .cells [.int .i64 5, .str [40], .int .u64 nu, .int .i64 a]) :: (n, .cells [.ptr b 0]) :: hset H b (.cells (rdC (l') (d + 1))), n + 1 + 1 + 1 + 1⟩ (fun st1 => st1 = ⟨(n + 1 + 1 + 1, .cells [.int .i64 k, .int .i64 f, .int .i64 o, .int .u64 v, .int .u64 m, .sl .none (E.cs ps)]) :: (n + 1 + 1, .cells [.int .i64 k, .int .i64 f, .int .i64 o, .int .u64 v, .int .u64 m, .sl .none (E.cs ps)]) :: (n + 1, .cells [.int .i64 5, .str [40], .int .u64 nu, .int .i64 a]) :: (n, .cells [.ptr b 0]) :: hset H b (.cells (rdC (l') (d))), n + 1 + 1 + 1 + 1⟩) := by
    have h := upS (c := n) (b := b) (l := l') (d := d) (H := (n + 1 + 1 + 1, .cells [.int .i64 k, .int .i64 f, .int .i64 o, .int .u64 v, .int .u64 m, .sl .none (E.cs ps)]) :: (n + 1 + 1, .cells [.int .i64 k, .int .i64 f, .int .i64 o, .int .u64 v, .int .u64 m, .sl .none (E.cs ps)]) :: (n + 1, .cells [.int .i64 5, .str [40], .int .u64 nu, .int .i64 a]) :: (n, .cells [.ptr b 0]) :: hset H b (.cells (rdC (l') (d + 1)))) (n := n + 1 + 1 + 1 + 1) (by simp (disch := omega) only [hpK]) (by simp (disch := omega) only [hpK, hbb]) ((((((hl.set lowRd).le (by omega)).cons (by omega) (by simp only [lowO, lowL, lowV, Bool.and_true, decide_eq_true_eq]; omega)).cons (by omega) (by rfl)).cons (by omega) hlo).cons (by omega) hlo) hd
    simp (disch := omega) only [hpK] at h
    exact h
  have e3 : decide (([40] : List UInt8) = [33]) = false := by decide
  have e2 : decide (d ≥ 32) = false := by simp; omega
  have hec : (E.mk k f o v m false ps).c = .agg [.int .i64 k, .int .i64 f, .int .i64 o, .int .u64 v, .int .u64 m, .sl .none (E.cs ps)] := rfl
  rw [hec] at hp1 ⊢
  clear hlo
  unfold rdC at *
  refine goDS Tryz.func104 rfl rfl ?_
  intro t ht
  have a0 : tget t 0 = .ptr b 0 := ht 0 _ rfl
  have a1 : tget t 1 = .agg [.int .i64 5, .str [40], .int .u64 nu, .int .i64 a] := ht 1 _ rfl
  clear ht
  have ex := And.intro @a0 (And.intro @a1 (And.intro @hpB (And.intro @hpK (And.intro @zvE (And.intro @hb (And.intro @hbb (And.intro @e2 @e3)))))))
  repeat' (first
   | (with_reducible refine isO ?_); first | refine mvA (h := ?_) | refine asA (h := ?_) | refine deA (h := ?_) | refine quA (h := ?_) | refine wnA (h := ?_) | refine caA (hc := hp1) (h := ?_) | refine caA (hc := hok) (h := ?_) | refine caA (hc := hyes) (h := ?_)
   | (with_reducible refine isG ?_); first | refine stA (h := ?_) | refine srA (h := ?_) | refine swA (h := ?_) | refine s1A (h := ?_) | refine s0A (h := ?_) | refine sgA (h1 := fun _ => ?_) (h0 := fun _ => ?_) | refine sbA (h1 := fun _ => ?_) (h0 := fun _ => ?_)
   | (with_reducible refine isP ?_); first | refine dqA (h := ?_) | refine dnA (i := 8) (l := []) (h := ?_)
   | (with_reducible refine isC ?_); first | refine ctA (h := ?_) | refine cfA (h := ?_) | refine cdA (h1 := fun _ => ?_) (h0 := fun _ => ?_) | refine cbA (h1 := fun _ => ?_) (h0 := fun _ => ?_)
   | (with_reducible refine isR ?_); first
     | refine Ev.drawn (by decide +kernel) (l := [0, 1, 2, 3, 4, 5, 6, 7, 8]) (by decide +kernel) ?_
   | with_reducible first | refine Ev.seq ?_ | refine Ev.ops ?_ | refine NxE ?_ | refine BxN ?_ | refine BxX ?_ | refine NxX ?_ | refine NxR ?_ | refine BxR ?_ | refine Ev.block ?_ | refine Ev.skip ?_ | refine Ev.exit ?_ | refine Ev.ret ?_ | refine EvOps.nil ?_ | refine EvPlan.nil ?_
   | (with_reducible refine BxO ?_ ?_; · decide)
   )
  refine leafD (rl := [.cell 4 25]) (.inr rfl) hup2 rfl (hv := by
    simp only [leaveV, packV, strip, stripAgg, stripCell, List.map_cons, List.map_nil, show cx.grow 104 = false from rfl, show cx.keep 104 = false from rfl, show cx.frz 104 = false from rfl, if_false, if_true, Bool.false_eq_true]
    try simp (disch := omega) only [hdrop_ge, hdrop_hset, hw, ite_self, List.take_length]
    first | done | rfl)
end Go.Proofs.YtklcmgodhpediaaGreatDoor.K
