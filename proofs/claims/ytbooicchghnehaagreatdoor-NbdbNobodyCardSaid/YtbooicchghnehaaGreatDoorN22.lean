/- Walks whose frames are known by what they hold at each place alone. -/
import Derived.Test.YtbooicchghnehaaGreatDoorN18
import Derived.Lib.LaidTab
set_option linter.unusedSimpArgs false
set_option linter.unusedVariables false
namespace Go.Vm
open Go Go.RowKit

/-! Numbers. -/
theorem wI64 {x : Int} (h1 : -9223372036854775808 ≤ x) (h2 : x ≤ 9223372036854775807) : IntKind.i64.wrap x = x := by
  simp [IntKind.wrap, IntKind.signed, IntKind.bits]; omega
theorem wI32 {x : Int} (h1 : -2147483648 ≤ x) (h2 : x ≤ 2147483647) : IntKind.i32.wrap x = x := by
  simp [IntKind.wrap, IntKind.signed, IntKind.bits]; omega
theorem wU8 (x : Int) : IntKind.u8.wrap x = x % 256 := by simp [IntKind.wrap, IntKind.signed, IntKind.bits]
theorem wU16 (x : Int) : IntKind.u16.wrap x = x % 65536 := by simp [IntKind.wrap, IntKind.signed, IntKind.bits]
theorem wU32 (x : Int) : IntKind.u32.wrap x = x % 4294967296 := by simp [IntKind.wrap, IntKind.signed, IntKind.bits]
theorem wU64 (x : Int) : IntKind.u64.wrap x = x % 18446744073709551616 := by simp [IntKind.wrap, IntKind.signed, IntKind.bits]
theorem beqD (a b : Int) : (a == b) = decide (a = b) := rfl
theorem bneD (a b : Int) : (a != b) = decide (a ≠ b) := by simp [bne, beqD]
theorem notD {p : Prop} [Decidable p] : (!decide p) = decide (¬ p) := by simp
theorem beqS (a b : List UInt8) : (a == b) = decide (a = b) := by
  by_cases h : a = b
  · subst h; simp
  · simp [h]

section
variable {C : Cfg}

theorem tgP (l : List (Nat × V)) (d t : Nat) (v : V) : tget (tset l d v) t = if t = d then v else tget l t := tget_tset l d t v

theorem tget_init : ∀ (l : List V) (k i : Nat) (v : V), l[i]? = some v → tget (initT k l) (k + i) = v
  | [], k, i, v, h => by simp at h
  | x :: l, k, 0, v, h => by simp at h; subst h; simp [initT, tget]
  | x :: l, k, i + 1, v, h => by
    simp only [initT, tget]
    have : (k == k + (i + 1)) = false := by simp
    rw [this]
    have := tget_init l (k + 1) i v (by simpa using h)
    rw [show k + 1 + i = k + (i + 1) by omega] at this
    simpa using this

theorem frame0_get {n : Nat} {args : List V} {i : Nat} {v : V} (h : args[i]? = some v) : tget (frame0 n args) i = v := by
  have := tget_init (args ++ List.replicate (n - args.length) .any) 0 i v (by
    rw [List.getElem?_append_left (List.getElem?_eq_some_iff.1 h).1]; exact h)
  simpa [frame0] using this

theorem evP {C : Cfg} :
    (∀ t d i, evalO C ⟨t, d⟩ (.tmp i) = tget t i) ∧
    (∀ f k n, evalO C f (.const (.int k n)) = .int k n) ∧ (∀ f b, evalO C f (.const (.bool b)) = .bool b) ∧ (∀ f s, evalO C f (.const (.string s)) = .str s.data.toList) ∧
    (∀ f, evalO C f (.const (.pointer none)) = .nilptr) ∧ (∀ f, evalO C f (.const (.slice none 0 0)) = .sl .full []) ∧ (∀ f, evalO C f (.const (.map none)) = .nilmap) ∧ (∀ f, evalO C f (.const .nilFunc) = .nilfunc) ∧ (∀ f, evalO C f (.const .nilIface) = .niliface) ∧
    (∀ f cs, evalO C f (.const (.agg cs)) = ofVal (.agg cs)) ∧ (∀ f k, evalO C f (.func k) = .func (.func k) [] []) ∧ (∀ f i, evalO C f (.global i) = C.glob i) :=
  ⟨fun _ _ _ => rfl, fun _ _ _ => rfl, fun _ _ => rfl, fun _ _ => rfl, fun _ => rfl, fun _ => rfl, fun _ => rfl, fun _ => rfl, fun _ => rfl, fun _ _ => rfl, fun _ _ => rfl, fun _ _ => rfl⟩

/-- A call answers v and leaves st'. -/
structure FnS (C : Cfg) (k : FuncId) (args : List V) (st : St) (v : V) (st' : St) : Prop where
  ex : Fn C k args st fun v1 st1 => v1 = v ∧ st1 = st'

section
variable {k : FuncId} {fn : Func} {c : Code} {args : List V} {st st' : St} {v : V} {Q : V → St → Prop}
theorem FnS.use (h : FnS C k args st v st') (hq : Q v st') : Fn C k args st Q := Fn.mono h.ex fun _ _ ⟨h1, h2⟩ => by subst h1; subst h2; exact hq

/-- A function in its caller's memory. -/
theorem goI (hf : C.P.funcs[k]? = some fn) (hx : C.X k args st = none) (hp : C.pure k = false) (hb : fn.body = some c) (hl : decide (args.length ≤ fn.ntmps) = true)
    (h : ∀ t : List (Nat × V), (∀ i v, args[i]? = some v → tget t i = v) → Ev C c ⟨t, []⟩ st (Lv C fn k st.n Q)) : Fn C k args st Q :=
  Fn.of hf hx hp hb hl (h _ fun i v hv => frame0_get hv)
end

section
variable {Q : Ex → Fr → St → Prop} {t : List (Nat × V)} {d : List (V × List V)} {st : St} {a b : Code} {c : Operand}
theorem condD {p : Prop} [Decidable p] (hc : evalO C ⟨t, d⟩ c = .bool (decide p)) (h1 : p → Ev C a ⟨t, d⟩ st Q) (h0 : ¬ p → Ev C b ⟨t, d⟩ st Q) : Ev C (.cond c a b) ⟨t, d⟩ st Q :=
  Ev.cond2 hc (fun h => h1 (of_decide_eq_true h)) (fun h => h0 (of_decide_eq_false h))
theorem condB {q : Bool} (hc : evalO C ⟨t, d⟩ c = .bool q) (h1 : q = true → Ev C a ⟨t, d⟩ st Q) (h0 : q = false → Ev C b ⟨t, d⟩ st Q) : Ev C (.cond c a b) ⟨t, d⟩ st Q := Ev.cond2 hc h1 h0

end

section
variable {ops : Array Oper} {rest : List Oper} {t : List (Nat × V)} {dd : List (V × List V)} {st st' : St} {Q : Fr → St → Prop} {v : V} {d : Tmp} {op : Op} {type : TypeId} {pos : String} {after : Array Edge}

theorem sQ (hq : quietOp C ⟨t, dd⟩ st op = some (v, st')) (h : EvOps C ops rest ⟨tset t d v, dd⟩ st' Q) :
    EvOps C ops ({ dst := some d, op := op, type := type, pos := pos, after := after, guard := none } :: rest) ⟨t, dd⟩ st Q := EvOps.quiet rfl hq h
theorem sMv {x : Operand} (hv : evalO C ⟨t, dd⟩ x = v) (h : EvOps C ops rest ⟨tset t d v, dd⟩ st Q) :
    EvOps C ops ({ dst := some d, op := .move x, type := type, pos := pos, after := after, guard := none } :: rest) ⟨t, dd⟩ st Q := sQ (by rw [← hv]; rfl) h
theorem sAs {x : Operand} (hv : evalO C ⟨t, dd⟩ x = v) (h : EvOps C ops rest ⟨tset t d v, dd⟩ st Q) :
    EvOps C ops ({ dst := some d, op := .assign x, type := type, pos := pos, after := after, guard := none } :: rest) ⟨t, dd⟩ st Q := sQ (by rw [← hv]; rfl) h
theorem sW (hp : plainWr op = true) (hq : wrOp C (callF C 0) (evalO C ⟨t, dd⟩) st op = some (v, st')) (h : EvOps C ops rest ⟨tset t d v, dd⟩ st' Q) :
    EvOps C ops ({ dst := some d, op := op, type := type, pos := pos, after := after, guard := none } :: rest) ⟨t, dd⟩ st Q := EvOps.wr rfl hp hq h
theorem sWn (hp : plainWr op = true) (hq : wrOp C (callF C 0) (evalO C ⟨t, dd⟩) st op = some (v, st')) (h : EvOps C ops rest ⟨t, dd⟩ st' Q) :
    EvOps C ops ({ dst := none, op := op, type := type, pos := pos, after := after, guard := none } :: rest) ⟨t, dd⟩ st Q := EvOps.wr rfl hp hq h
/-- A call whose answer is known by a condition alone. -/
theorem sX {g : Operand} {args : Array Operand} {ats : Array TypeId} {k : FuncId} {fi ca as : List V} (hg : evalO C ⟨t, dd⟩ g = .func (.func k) fi ca) (ha : fi ++ args.toList.map (evalO C ⟨t, dd⟩) ++ ca = as)
    (hc : Fn C k as st fun v st' => EvOps C ops rest ⟨tset t d v, dd⟩ st' Q) :
    EvOps C ops ({ dst := some d, op := .call { callee := .value g, args := args, argTypes := ats }, type := type, pos := pos, after := after, guard := none } :: rest) ⟨t, dd⟩ st Q :=
  EvOps.call rfl hg (by rw [ha]; exact hc)

/-! Guards. -/
section
variable {ol : List Oper} {j : Nat} {want : Bool} {dj : Tmp} {dst : Option Tmp} {p : Prop} [Decidable p]
end

variable {ol : List Oper} {done rest' l : List Nat} {i : Nat} {guard : Option (Nat × Bool)}
end

/-! Some operations. -/
/-! What a goal is. -/
section
variable {C : Cfg} {ops : Array Oper} {rest : List Oper} {f : Fr} {st : St} {Q : Fr → St → Prop} {R : Ex → Fr → St → Prop} {dst : Option Tmp} {op : Op} {type : TypeId} {pos : String} {after : Array Edge} {g : Nat × Bool} {l : List Nat} {done : List Nat} {i : Nat} {c : Operand} {a b : Code}
theorem isO (h : EvOps C ops ({ dst := dst, op := op, type := type, pos := pos, after := after, guard := none } :: rest) f st Q) : EvOps C ops ({ dst := dst, op := op, type := type, pos := pos, after := after, guard := none } :: rest) f st Q := h
theorem isC (h : Ev C (.cond c a b) f st R) : Ev C (.cond c a b) f st R := h
end

/-! Leaves. -/
/-- A function in its caller's memory, by its answer. -/
theorem goS {k : FuncId} {fn : Func} {c : Code} {args : List V} {st st' : St} {v : V} (hf : C.P.funcs[k]? = some fn) (hx : C.X k args st = none) (hp : C.pure k = false) (hb : fn.body = some c) (hl : decide (args.length ≤ fn.ntmps) = true)
    (h : ∀ t : List (Nat × V), (∀ i v, args[i]? = some v → tget t i = v) → Ev C c ⟨t, []⟩ st (Lv C fn k st.n fun v1 st1 => v1 = v ∧ st1 = st')) : FnS C k args st v st' := ⟨goI hf hx hp hb hl h⟩
theorem leafS {fn : Func} {k : FuncId} {n0 : Nat} {t : List (Nat × V)} {st st' : St} {v : V} {vs : List V} (hr : resultsV C st.H t fn.results.toList = some vs)
    (hv : leaveV C k n0 (packV vs) st = (v, st')) : Lv C fn k n0 (fun v1 st1 => v1 = v ∧ st1 = st') .ret ⟨t, []⟩ st := ⟨rfl, vs, hr, by rw [hv], by rw [hv]⟩
end
end Go.Vm
/- Known functions that answer rows of texts; tables. -/
namespace Go.Vm
open Go Go.RowKit

end Go.Vm
/- Loops by a label. -/
namespace Go.Vm
open Go Go.RowKit

section
variable {C : Cfg} {f : Fr} {st : St} {Q : Ex → Fr → St → Prop}

/-- Code, piece behind piece. -/
def EvLd (C : Cfg) : List Code → Fr → St → (Ex → Fr → St → Prop) → Prop
  | [], f, st, Q => Q .normal f st
  | c :: l, f, st, Q => Ev C c f st (Nx (fun f' st' => EvLd C l f' st' Q) Q)
structure EvL (C : Cfg) (l : List Code) (f : Fr) (st : St) (Q : Ex → Fr → St → Prop) : Prop where
  ex : EvLd C l f st Q

theorem EvL.nil (h : Q .normal f st) : EvL C [] f st Q := ⟨h⟩
theorem EvL.cons {c : Code} {l : List Code} (h : Ev C c f st (Nx (fun f' st' => EvL C l f' st' Q) Q)) : EvL C (c :: l) f st Q :=
  ⟨h.mono fun e f' st' hq => by cases e <;> first | exact hq | exact hq.ex⟩

theorem EvLd.mono : ∀ {l : List Code} {f : Fr} {st : St} {Q Q' : Ex → Fr → St → Prop}, EvLd C l f st Q → (∀ e f' st', Q e f' st' → Q' e f' st') → EvLd C l f st Q'
  | [], f, st, Q, Q', h, hq => hq _ _ _ h
  | c :: l, f, st, Q, Q', h, hq => Ev.mono h fun e f' st' h' => by
    cases e <;> first | exact hq _ _ _ h' | exact EvLd.mono h' hq

theorem EvLd.append : ∀ {l m : List Code} {f : Fr} {st : St} {Q : Ex → Fr → St → Prop}, EvLd C l f st (Nx (fun f' st' => EvLd C m f' st' Q) Q) → EvLd C (l ++ m) f st Q
  | [], m, f, st, Q, h => h
  | c :: l, m, f, st, Q, h => Ev.mono h fun e f' st' h' => by
    cases e <;> first | exact h' | exact EvLd.append h'
theorem EvLd.split : ∀ {l m : List Code} {f : Fr} {st : St} {Q : Ex → Fr → St → Prop}, EvLd C (l ++ m) f st Q → EvLd C l f st (Nx (fun f' st' => EvLd C m f' st' Q) Q)
  | [], m, f, st, Q, h => h
  | c :: l, m, f, st, Q, h => Ev.mono h fun e f' st' h' => by
    cases e <;> first | exact h' | exact EvLd.split h'

end
end Go.Vm
/- The walker's rules, each with its own proof of what it asks: the names ex, exd, tyE, tyX, cvE and bdE are those of the text that uses a rule. -/
namespace Go.Vm
open Go Go.RowKit
/-- Nothing: where a walk names no equation of its own. -/
def zzz : Nat := 0
theorem exd : zzz = 0 := rfl
section
variable {C : Cfg} {ops : Array Oper} {rest : List Oper} {t : List (Nat × V)} {dd : List (V × List V)} {st st' : St} {Q : Fr → St → Prop} {v : V} {d : Tmp} {op : Op} {type : TypeId} {pos : String} {after : Array Edge}
theorem mvA {x : Operand} (hv : evalO C ⟨t, dd⟩ x = v := by simp only [↓evP, ↓tgP, ↓reduceIte, Nat.reduceEqDiff, reduceCtorEq, List.map_cons, List.map_nil, List.nil_append, List.append_nil, List.toList_toArray, Int.reduceLE, Int.reduceLT, Int.reduceEq, Int.reduceNe, Int.reduceGT, Int.reduceGE, decide_true, decide_false, ex]; with_reducible rfl) (h : EvOps C ops rest ⟨tset t d v, dd⟩ st Q) : EvOps C ops ({ dst := some d, op := .move x, type := type, pos := pos, after := after, guard := none } :: rest) ⟨t, dd⟩ st Q := sMv hv h
theorem asA {x : Operand} (hv : evalO C ⟨t, dd⟩ x = v := by simp only [↓evP, ↓tgP, ↓reduceIte, Nat.reduceEqDiff, reduceCtorEq, List.map_cons, List.map_nil, List.nil_append, List.append_nil, List.toList_toArray, Int.reduceLE, Int.reduceLT, Int.reduceEq, Int.reduceNe, Int.reduceGT, Int.reduceGE, decide_true, decide_false, ex]; with_reducible rfl) (h : EvOps C ops rest ⟨tset t d v, dd⟩ st Q) : EvOps C ops ({ dst := some d, op := .assign x, type := type, pos := pos, after := after, guard := none } :: rest) ⟨t, dd⟩ st Q := sAs hv h
theorem quA (hq : quietOp C ⟨t, dd⟩ st op = some (v, st') := by simp (disch := (first | assumption | omega)) only [↓opE, ↓evP, stE, binE, ldE, ↓tgP, ↓reduceIte, clE, ncE, szE, hgE, intBin, shiftBin, strBin, unV, indexAddrV, indexV, lenV, partV, isAggT, sliceV, boundsV, bndV, asIntV, fieldAddrV, fieldV, putAt, nilCheckV, stripAgg, stripCell, decide_eq_true_eq, beqD, bneD, notD, beqS, if_true, if_false, ite_true, ite_false, Bool.true_eq_false, Bool.false_eq_true, Nat.reduceEqDiff, Nat.reduceBEq, Nat.reduceAdd, Nat.reduceSub, Nat.reduceMul, Nat.min_def, Nat.reducePow, Nat.reduceLeDiff, Nat.reduceLT, Int.reduceEq, Int.reduceNe, Int.reduceLT, Int.reduceLE, Int.reduceToNat, Int.reduceAdd, Int.reduceSub, Int.reduceMul, Int.reducePow, Int.reduceNeg, Option.map_some, Option.map_none, Option.bind_some, Option.getD_some, Option.getD_none, ofBytes_length, ofBytes_get, ofBytes_take, ofBytes_drop, Int.toNat_natCast, Int.natCast_nonneg, and_self, true_and, and_true, List.getElem?_cons_zero, List.getElem?_cons_succ, decide_true, decide_false, Bool.not_true, Bool.not_false, List.getElem_toArray, List.getElem?_toArray, List.getElem_cons_succ, List.getElem_cons_zero, List.toList_toArray, List.map_cons, List.map_nil, List.take_succ_cons, List.take_zero, List.drop_succ_cons, List.drop_zero, List.length_cons, List.length_nil, List.nil_append, List.cons_append, List.append_nil, Nat.le_refl, Nat.zero_add, Nat.mul_one, Nat.add_zero, Nat.zero_lt_one, List.length_singleton, IntKind.bits, reduceCtorEq, not_true_eq_false, not_false_eq_true, ne_eq, if_pos, if_neg, wI64, wI32, wU8, wU16, wU32, wU64, Int.emod_eq_of_lt, Int.fdiv_eq_ediv_of_nonneg, Int.tdiv_eq_ediv_of_nonneg, Int.tmod_eq_emod_of_nonneg, hdel, tyE, tyX, cvE, bdE, ↓exd, ex]; with_reducible rfl) (h : EvOps C ops rest ⟨tset t d v, dd⟩ st' Q) : EvOps C ops ({ dst := some d, op := op, type := type, pos := pos, after := after, guard := none } :: rest) ⟨t, dd⟩ st Q := sQ hq h
theorem waA (hp : plainWr op = true := by rfl) (hq : wrOp C (callF C 0) (evalO C ⟨t, dd⟩) st op = some (v, st') := by simp (disch := (first | assumption | omega)) only [↓opE, ↓evP, stE, binE, ldE, ↓tgP, ↓reduceIte, clE, ncE, szE, hgE, intBin, shiftBin, strBin, unV, indexAddrV, indexV, lenV, partV, isAggT, sliceV, boundsV, bndV, asIntV, fieldAddrV, fieldV, putAt, nilCheckV, stripAgg, stripCell, decide_eq_true_eq, beqD, bneD, notD, beqS, if_true, if_false, ite_true, ite_false, Bool.true_eq_false, Bool.false_eq_true, Nat.reduceEqDiff, Nat.reduceBEq, Nat.reduceAdd, Nat.reduceSub, Nat.reduceMul, Nat.min_def, Nat.reducePow, Nat.reduceLeDiff, Nat.reduceLT, Int.reduceEq, Int.reduceNe, Int.reduceLT, Int.reduceLE, Int.reduceToNat, Int.reduceAdd, Int.reduceSub, Int.reduceMul, Int.reducePow, Int.reduceNeg, Option.map_some, Option.map_none, Option.bind_some, Option.getD_some, Option.getD_none, ofBytes_length, ofBytes_get, ofBytes_take, ofBytes_drop, Int.toNat_natCast, Int.natCast_nonneg, and_self, true_and, and_true, List.getElem?_cons_zero, List.getElem?_cons_succ, decide_true, decide_false, Bool.not_true, Bool.not_false, List.getElem_toArray, List.getElem?_toArray, List.getElem_cons_succ, List.getElem_cons_zero, List.toList_toArray, List.map_cons, List.map_nil, List.take_succ_cons, List.take_zero, List.drop_succ_cons, List.drop_zero, List.length_cons, List.length_nil, List.nil_append, List.cons_append, List.append_nil, Nat.le_refl, Nat.zero_add, Nat.mul_one, Nat.add_zero, Nat.zero_lt_one, List.length_singleton, IntKind.bits, reduceCtorEq, not_true_eq_false, not_false_eq_true, ne_eq, if_pos, if_neg, wI64, wI32, wU8, wU16, wU32, wU64, Int.emod_eq_of_lt, Int.fdiv_eq_ediv_of_nonneg, Int.tdiv_eq_ediv_of_nonneg, Int.tmod_eq_emod_of_nonneg, wrOp, hdel, tyE, tyX, cvE, bdE, ↓exd, ex]; with_reducible rfl) (h : EvOps C ops rest ⟨tset t d v, dd⟩ st' Q) : EvOps C ops ({ dst := some d, op := op, type := type, pos := pos, after := after, guard := none } :: rest) ⟨t, dd⟩ st Q := sW hp hq h
section
variable {g : Operand} {args : Array Operand} {ats : Array TypeId} {k : FuncId} {fi ca as : List V}
end
section
variable {ol : List Oper} {j : Nat} {want : Bool} {dj : Tmp} {dst : Option Tmp} {p : Prop} [Decidable p]
end
section
variable {ol : List Oper} {done rest' l : List Nat} {i : Nat} {g : Operand} {args : Array Operand} {ats : Array TypeId} {k : FuncId} {fi ca as : List V}
end
end
section
variable {C : Cfg} {Q : Ex → Fr → St → Prop} {t : List (Nat × V)} {d : List (V × List V)} {st : St} {a b : Code} {c : Operand}
theorem ctA (hc : evalO C ⟨t, d⟩ c = .bool true := by (simp (disch := (first | assumption | omega)) only [↓evP, ↓tgP, ↓reduceIte, Nat.reduceEqDiff, reduceCtorEq, decide_true, decide_false, notD, Bool.not_true, Bool.not_false, decide_eq_true, decide_eq_false, Int.reduceLE, Int.reduceLT, Int.reduceEq, Int.reduceNe, Int.reduceGT, Int.reduceGE, ex]); first | done | fail) (h : Ev C a ⟨t, d⟩ st Q) : Ev C (.cond c a b) ⟨t, d⟩ st Q := condT hc h
theorem cfA (hc : evalO C ⟨t, d⟩ c = .bool false := by (simp (disch := (first | assumption | omega)) only [↓evP, ↓tgP, ↓reduceIte, Nat.reduceEqDiff, reduceCtorEq, decide_true, decide_false, notD, Bool.not_true, Bool.not_false, decide_eq_true, decide_eq_false, Int.reduceLE, Int.reduceLT, Int.reduceEq, Int.reduceNe, Int.reduceGT, Int.reduceGE, ex]); first | done | fail) (h : Ev C b ⟨t, d⟩ st Q) : Ev C (.cond c a b) ⟨t, d⟩ st Q := condF hc h
theorem cdA {p : Prop} [Decidable p] (hc : evalO C ⟨t, d⟩ c = .bool (decide p) := by simp only [↓evP, ↓tgP, ↓reduceIte, Nat.reduceEqDiff, reduceCtorEq, List.map_cons, List.map_nil, List.nil_append, List.append_nil, List.toList_toArray, Int.reduceLE, Int.reduceLT, Int.reduceEq, Int.reduceNe, Int.reduceGT, Int.reduceGE, decide_true, decide_false, ex]; with_reducible rfl) (h1 : p → Ev C a ⟨t, d⟩ st Q) (h0 : ¬ p → Ev C b ⟨t, d⟩ st Q) : Ev C (.cond c a b) ⟨t, d⟩ st Q := condD hc h1 h0
theorem cbA {q : Bool} (hc : evalO C ⟨t, d⟩ c = .bool q := by simp only [↓evP, ↓tgP, ↓reduceIte, Nat.reduceEqDiff, reduceCtorEq, List.map_cons, List.map_nil, List.nil_append, List.append_nil, List.toList_toArray, Int.reduceLE, Int.reduceLT, Int.reduceEq, Int.reduceNe, Int.reduceGT, Int.reduceGE, decide_true, decide_false, ex]; with_reducible rfl) (h1 : q = true → Ev C a ⟨t, d⟩ st Q) (h0 : q = false → Ev C b ⟨t, d⟩ st Q) : Ev C (.cond c a b) ⟨t, d⟩ st Q := condB hc h1 h0
end
section
variable {C : Cfg} {fn : Func} {k : FuncId} {n0 : Nat} {t : List (Nat × V)} {st st' : St} {v : V} {vs : List V} {rl : List ResultVar}
theorem lsA (hrl : fn.results.toList = rl) (hr : resultsV C st.H t rl = some vs := by simp (disch := (first | assumption | omega)) only [↓opE, ↓evP, stE, binE, ldE, ↓tgP, ↓reduceIte, clE, ncE, szE, hgE, intBin, shiftBin, strBin, unV, indexAddrV, indexV, lenV, partV, isAggT, sliceV, boundsV, bndV, asIntV, fieldAddrV, fieldV, putAt, nilCheckV, stripAgg, stripCell, decide_eq_true_eq, beqD, bneD, notD, beqS, if_true, if_false, ite_true, ite_false, Bool.true_eq_false, Bool.false_eq_true, Nat.reduceEqDiff, Nat.reduceBEq, Nat.reduceAdd, Nat.reduceSub, Nat.reduceMul, Nat.min_def, Nat.reducePow, Nat.reduceLeDiff, Nat.reduceLT, Int.reduceEq, Int.reduceNe, Int.reduceLT, Int.reduceLE, Int.reduceToNat, Int.reduceAdd, Int.reduceSub, Int.reduceMul, Int.reducePow, Int.reduceNeg, Option.map_some, Option.map_none, Option.bind_some, Option.getD_some, Option.getD_none, ofBytes_length, ofBytes_get, ofBytes_take, ofBytes_drop, Int.toNat_natCast, Int.natCast_nonneg, and_self, true_and, and_true, List.getElem?_cons_zero, List.getElem?_cons_succ, decide_true, decide_false, Bool.not_true, Bool.not_false, List.getElem_toArray, List.getElem?_toArray, List.getElem_cons_succ, List.getElem_cons_zero, List.toList_toArray, List.map_cons, List.map_nil, List.take_succ_cons, List.take_zero, List.drop_succ_cons, List.drop_zero, List.length_cons, List.length_nil, List.nil_append, List.cons_append, List.append_nil, Nat.le_refl, Nat.zero_add, Nat.mul_one, Nat.add_zero, Nat.zero_lt_one, List.length_singleton, IntKind.bits, reduceCtorEq, not_true_eq_false, not_false_eq_true, ne_eq, if_pos, if_neg, wI64, wI32, wU8, wU16, wU32, wU64, Int.emod_eq_of_lt, Int.fdiv_eq_ediv_of_nonneg, Int.tdiv_eq_ediv_of_nonneg, Int.tmod_eq_emod_of_nonneg, resultsV, hdel, tyE, tyX, cvE, bdE, ↓exd, ex]; with_reducible rfl) (hv : leaveV C k n0 (packV vs) st = (v, st')) : Lv C fn k n0 (fun v1 st1 => v1 = v ∧ st1 = st') .ret ⟨t, []⟩ st :=
  leafS (by rw [hrl]; exact hr) hv
end
end Go.Vm
