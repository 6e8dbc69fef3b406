/- Walks whose frames are known by what they hold at each place alone. -/
import Derived.Test.YtfjhanjpacghkaaN21
set_option linter.unusedSimpArgs false
set_option linter.unusedVariables false
namespace Go.Vm
open Go Go.RowKit

/-! Numbers. -/
theorem wI64 {x : Int} (h1 : -9223372036854775808 ≤ x) (h2 : x ≤ 9223372036854775807) : IntKind.i64.wrap x = x := by
  simp [IntKind.wrap, IntKind.signed, IntKind.bits]; omega
theorem wI32 {x : Int} (h1 : -2147483648 ≤ x) (h2 : x ≤ 2147483647) : IntKind.i32.wrap x = x := by
  simp [IntKind.wrap, IntKind.signed, IntKind.bits]; omega
theorem wU8 (x : Int) : IntKind.u8.wrap x = x % 256 := by simp [IntKind.wrap, IntKind.signed, IntKind.bits]
theorem wU16 (x : Int) : IntKind.u16.wrap x = x % 65536 := by simp [IntKind.wrap, IntKind.signed, IntKind.bits]
theorem wU32 (x : Int) : IntKind.u32.wrap x = x % 4294967296 := by simp [IntKind.wrap, IntKind.signed, IntKind.bits]
theorem wU64 (x : Int) : IntKind.u64.wrap x = x % 18446744073709551616 := by simp [IntKind.wrap, IntKind.signed, IntKind.bits]
theorem beqD (a b : Int) : (a == b) = decide (a = b) := rfl
theorem bneD (a b : Int) : (a != b) = decide (a ≠ b) := by simp [bne, beqD]
theorem notD {p : Prop} [Decidable p] : (!decide p) = decide (¬ p) := by simp
theorem beqS (a b : List UInt8) : (a == b) = decide (a = b) := by
  by_cases h : a = b
  · subst h; simp
  · simp [h]

section
variable {C : Cfg}

theorem tgP (l : List (Nat × V)) (d t : Nat) (v : V) : tget (tset l d v) t = if t = d then v else tget l t := tget_tset l d t v

theorem tget_init : ∀ (l : List V) (k i : Nat) (v : V), l[i]? = some v → tget (initT k l) (k + i) = v
  | [], k, i, v, h => by simp at h
  | x :: l, k, 0, v, h => by simp at h; subst h; simp [initT, tget]
  | x :: l, k, i + 1, v, h => by
    simp only [initT, tget]
    have : (k == k + (i + 1)) = false := by simp
    rw [this]
    have := tget_init l (k + 1) i v (by simpa using h)
    rw [show k + 1 + i = k + (i + 1) by omega] at this
    simpa using this

theorem frame0_get {n : Nat} {args : List V} {i : Nat} {v : V} (h : args[i]? = some v) : tget (frame0 n args) i = v := by
  have := tget_init (args ++ List.replicate (n - args.length) .any) 0 i v (by
    rw [List.getElem?_append_left (List.getElem?_eq_some_iff.1 h).1]; exact h)
  simpa [frame0] using this

theorem evP {C : Cfg} :
    (∀ t d i, evalO C ⟨t, d⟩ (.tmp i) = tget t i) ∧
    (∀ f k n, evalO C f (.const (.int k n)) = .int k n) ∧ (∀ f b, evalO C f (.const (.bool b)) = .bool b) ∧ (∀ f s, evalO C f (.const (.string s)) = .str s.data.toList) ∧
    (∀ f, evalO C f (.const (.pointer none)) = .nilptr) ∧ (∀ f, evalO C f (.const (.slice none 0 0)) = .sl .full []) ∧ (∀ f, evalO C f (.const (.map none)) = .nilmap) ∧ (∀ f, evalO C f (.const .nilFunc) = .nilfunc) ∧ (∀ f, evalO C f (.const .nilIface) = .niliface) ∧
    (∀ f cs, evalO C f (.const (.agg cs)) = ofVal (.agg cs)) ∧ (∀ f k, evalO C f (.func k) = .func (.func k) [] []) ∧ (∀ f i, evalO C f (.global i) = C.glob i) :=
  ⟨fun _ _ _ => rfl, fun _ _ _ => rfl, fun _ _ => rfl, fun _ _ => rfl, fun _ => rfl, fun _ => rfl, fun _ => rfl, fun _ => rfl, fun _ => rfl, fun _ _ => rfl, fun _ _ => rfl, fun _ _ => rfl⟩

/-- A call answers v and leaves st'. -/
structure FnS (C : Cfg) (k : FuncId) (args : List V) (st : St) (v : V) (st' : St) : Prop where
  ex : Fn C k args st fun v1 st1 => v1 = v ∧ st1 = st'

section
variable {k : FuncId} {fn : Func} {c : Code} {args : List V} {st st' : St} {v : V} {Q : V → St → Prop}
theorem FnS.use (h : FnS C k args st v st') (hq : Q v st') : Fn C k args st Q := Fn.mono h.ex fun _ _ ⟨h1, h2⟩ => by subst h1; subst h2; exact hq

/-- A function with a memory of its own. -/
theorem goP (hf : C.P.funcs[k]? = some fn) (hx : C.X k args st = none) (hp : C.pure k = true) (hb : fn.body = some c) (hl : decide (args.length ≤ fn.ntmps) = true) (ha : pureVs (args.map unown) = true)
    (h : ∀ t : List (Nat × V), (∀ i v, (args.map unown)[i]? = some v → tget t i = v) → Ev C c ⟨t, []⟩ ⟨[], 0⟩ (Lv C fn k 0 fun v1 _ => pureV v1 = true ∧ v1 = v)) : FnS C k args st v st :=
  ⟨Fn.pure hf hx hp hb hl ha ((h _ fun i v hv => frame0_get hv).mono fun e f' st' hq => by
    cases e <;> try exact hq
    all_goals
      obtain ⟨h1, vs, h2, h3, h4⟩ := hq
      exact ⟨h1, vs, h2, h3, h4, rfl⟩)⟩
/-- A function in its caller's memory. -/
theorem goI (hf : C.P.funcs[k]? = some fn) (hx : C.X k args st = none) (hp : C.pure k = false) (hb : fn.body = some c) (hl : decide (args.length ≤ fn.ntmps) = true)
    (h : ∀ t : List (Nat × V), (∀ i v, args[i]? = some v → tget t i = v) → Ev C c ⟨t, []⟩ st (Lv C fn k st.n Q)) : Fn C k args st Q :=
  Fn.of hf hx hp hb hl (h _ fun i v hv => frame0_get hv)
end

section
variable {Q : Ex → Fr → St → Prop} {t : List (Nat × V)} {d : List (V × List V)} {st : St} {a b : Code} {c : Operand}
theorem condD {p : Prop} [Decidable p] (hc : evalO C ⟨t, d⟩ c = .bool (decide p)) (h1 : p → Ev C a ⟨t, d⟩ st Q) (h0 : ¬ p → Ev C b ⟨t, d⟩ st Q) : Ev C (.cond c a b) ⟨t, d⟩ st Q :=
  Ev.cond2 hc (fun h => h1 (of_decide_eq_true h)) (fun h => h0 (of_decide_eq_false h))
theorem condB {q : Bool} (hc : evalO C ⟨t, d⟩ c = .bool q) (h1 : q = true → Ev C a ⟨t, d⟩ st Q) (h0 : q = false → Ev C b ⟨t, d⟩ st Q) : Ev C (.cond c a b) ⟨t, d⟩ st Q := Ev.cond2 hc h1 h0

/-- A loop: what holds of the frame ahead of each round, and what each round lowers. -/
theorem loopT {b : Code} (Inv : Nat → List (Nat × V) → St → Prop) {n : Nat} (h0 : Inv n t st)
    (step : ∀ n t st, Inv n t st → Ev C b ⟨t, d⟩ st (Nx (fun f' st' => ∃ m, m < n ∧ f'.d = d ∧ Inv m f'.t st') Q)) : Ev C (.loop b) ⟨t, d⟩ st Q := by
  refine Ev.loop_ind (fun n f st => f.d = d ∧ Inv n f.t st) ⟨rfl, h0⟩ fun n f st h => ?_
  obtain ⟨t', d'⟩ := f
  obtain ⟨hd, hi⟩ := h
  simp only at hd hi
  subst hd
  refine (step n t' st hi).mono fun e f' st' hq => ?_
  cases e <;> exact hq
end

section
variable {ops : Array Oper} {rest : List Oper} {t : List (Nat × V)} {dd : List (V × List V)} {st st' : St} {Q : Fr → St → Prop} {v : V} {d : Tmp} {op : Op} {type : TypeId} {pos : String} {after : Array Edge}

theorem sQ (hq : quietOp C ⟨t, dd⟩ st op = some (v, st')) (h : EvOps C ops rest ⟨tset t d v, dd⟩ st' Q) :
    EvOps C ops ({ dst := some d, op := op, type := type, pos := pos, after := after, guard := none } :: rest) ⟨t, dd⟩ st Q := EvOps.quiet rfl hq h
theorem sMv {x : Operand} (hv : evalO C ⟨t, dd⟩ x = v) (h : EvOps C ops rest ⟨tset t d v, dd⟩ st Q) :
    EvOps C ops ({ dst := some d, op := .move x, type := type, pos := pos, after := after, guard := none } :: rest) ⟨t, dd⟩ st Q := sQ (by rw [← hv]; rfl) h
theorem sAs {x : Operand} (hv : evalO C ⟨t, dd⟩ x = v) (h : EvOps C ops rest ⟨tset t d v, dd⟩ st Q) :
    EvOps C ops ({ dst := some d, op := .assign x, type := type, pos := pos, after := after, guard := none } :: rest) ⟨t, dd⟩ st Q := sQ (by rw [← hv]; rfl) h
theorem sQn (hq : quietOp C ⟨t, dd⟩ st op = some (v, st')) (h : EvOps C ops rest ⟨t, dd⟩ st' Q) :
    EvOps C ops ({ dst := none, op := op, type := type, pos := pos, after := after, guard := none } :: rest) ⟨t, dd⟩ st Q := EvOps.quiet rfl hq h
theorem sW (hp : plainWr op = true) (hq : wrOp C (callF C 0) (evalO C ⟨t, dd⟩) st op = some (v, st')) (h : EvOps C ops rest ⟨tset t d v, dd⟩ st' Q) :
    EvOps C ops ({ dst := some d, op := op, type := type, pos := pos, after := after, guard := none } :: rest) ⟨t, dd⟩ st Q := EvOps.wr rfl hp hq h
theorem sWn (hp : plainWr op = true) (hq : wrOp C (callF C 0) (evalO C ⟨t, dd⟩) st op = some (v, st')) (h : EvOps C ops rest ⟨t, dd⟩ st' Q) :
    EvOps C ops ({ dst := none, op := op, type := type, pos := pos, after := after, guard := none } :: rest) ⟨t, dd⟩ st Q := EvOps.wr rfl hp hq h
theorem sC {g : Operand} {args : Array Operand} {ats : Array TypeId} {k : FuncId} {fi ca as : List V} (hg : evalO C ⟨t, dd⟩ g = .func (.func k) fi ca) (ha : fi ++ args.toList.map (evalO C ⟨t, dd⟩) ++ ca = as)
    (hc : FnS C k as st v st') (h : EvOps C ops rest ⟨tset t d v, dd⟩ st' Q) :
    EvOps C ops ({ dst := some d, op := .call { callee := .value g, args := args, argTypes := ats }, type := type, pos := pos, after := after, guard := none } :: rest) ⟨t, dd⟩ st Q :=
  EvOps.call rfl hg (by rw [ha]; exact hc.use h)
theorem sCn {g : Operand} {args : Array Operand} {ats : Array TypeId} {k : FuncId} {fi ca as : List V} (hg : evalO C ⟨t, dd⟩ g = .func (.func k) fi ca) (ha : fi ++ args.toList.map (evalO C ⟨t, dd⟩) ++ ca = as)
    (hc : FnS C k as st v st') (h : EvOps C ops rest ⟨t, dd⟩ st' Q) :
    EvOps C ops ({ dst := none, op := .call { callee := .value g, args := args, argTypes := ats }, type := type, pos := pos, after := after, guard := none } :: rest) ⟨t, dd⟩ st Q :=
  EvOps.call rfl hg (by rw [ha]; exact hc.use h)
/-- A call whose answer is known by a condition alone. -/
theorem sX {g : Operand} {args : Array Operand} {ats : Array TypeId} {k : FuncId} {fi ca as : List V} (hg : evalO C ⟨t, dd⟩ g = .func (.func k) fi ca) (ha : fi ++ args.toList.map (evalO C ⟨t, dd⟩) ++ ca = as)
    (hc : Fn C k as st fun v st' => EvOps C ops rest ⟨tset t d v, dd⟩ st' Q) :
    EvOps C ops ({ dst := some d, op := .call { callee := .value g, args := args, argTypes := ats }, type := type, pos := pos, after := after, guard := none } :: rest) ⟨t, dd⟩ st Q :=
  EvOps.call rfl hg (by rw [ha]; exact hc)


theorem toA {ol : List Oper} {i : Nat} {o : Oper} (h : ol[i]? = some o) : ol.toArray[i]? = some o := by rw [List.getElem?_toArray]; exact h

/-! Guards. -/
section
variable {ol : List Oper} {j : Nat} {want : Bool} {dj : Tmp} {dst : Option Tmp} {p : Prop} [Decidable p]
theorem wG {r b : Bool} (hj : (ol[j]?).bind (·.dst) = some dj) (hb : tget t dj = .bool b) (hr : (b == want) = r) :
    wantedV ⟨t, dd⟩ ol.toArray { dst := dst, op := op, type := type, pos := pos, after := after, guard := some (j, want) } = some r := by
  subst hr; simp only [wantedV, List.getElem?_toArray, hj, hb]
theorem wT {vs : List V} (hj : (ol[j]?).bind (·.dst) = some dj) (hb : tget t dj = .tup vs) :
    wantedV ⟨t, dd⟩ ol.toArray { dst := dst, op := op, type := type, pos := pos, after := after, guard := some (j, want) } = some false := by
  simp only [wantedV, List.getElem?_toArray, hj, hb]
theorem wN {f : Fr} {oo : Array Oper} : wantedV f oo { dst := dst, op := op, type := type, pos := pos, after := after, guard := none } = some true := rfl
theorem EvOps.unguard {g : Option (Nat × Bool)} (hw : wantedV ⟨t, dd⟩ ol.toArray { dst := dst, op := op, type := type, pos := pos, after := after, guard := g } = some true)
    (h : EvOps C ol.toArray ({ dst := dst, op := op, type := type, pos := pos, after := after, guard := none } :: rest) ⟨t, dd⟩ st Q) :
    EvOps C ol.toArray ({ dst := dst, op := op, type := type, pos := pos, after := after, guard := g } :: rest) ⟨t, dd⟩ st Q := by
  refine ⟨fun hC hP hX N w0 base g' w a hall hmem hG hgl hf hN R hR => ?_⟩
  have := h.ex hC hP hX hall (fun o ho d hd => by
    cases ho with
    | head => exact hmem _ List.mem_cons_self d hd
    | tail _ ho => exact hmem _ (List.mem_cons_of_mem _ ho) d hd) hG hgl hf hN R hR
  simp only [wpList] at this ⊢
  rw [if_pos (show Region.wanted ({ dst := dst, op := op, type := type, pos := pos, after := after, guard := none } : Oper) (yielded ol.toArray a.tmps) = true from rfl)] at this
  rw [if_pos (wantedV_sound (fun i _ => hf.t i) (fun i hi => by rw [hN]; exact opsOk_guard hall _ i hi) hw)]
  exact this
theorem sR (hj : (ol[j]?).bind (·.dst) = some dj) (hb : tget t dj = .bool want) (h : EvOps C ol.toArray ({ dst := dst, op := op, type := type, pos := pos, after := after, guard := none } :: rest) ⟨t, dd⟩ st Q) :
    EvOps C ol.toArray ({ dst := dst, op := op, type := type, pos := pos, after := after, guard := some (j, want) } :: rest) ⟨t, dd⟩ st Q := EvOps.unguard (wG hj hb (by simp)) h
theorem sS (hw : wantedV ⟨t, dd⟩ ol.toArray { dst := some d, op := op, type := type, pos := pos, after := after, guard := some (j, want) } = some false) (h : EvOps C ol.toArray rest ⟨tset t d (.tup []), dd⟩ st Q) :
    EvOps C ol.toArray ({ dst := some d, op := op, type := type, pos := pos, after := after, guard := some (j, want) } :: rest) ⟨t, dd⟩ st Q := EvOps.skip hw h
theorem sSn (hw : wantedV ⟨t, dd⟩ ol.toArray { dst := none, op := op, type := type, pos := pos, after := after, guard := some (j, want) } = some false) (h : EvOps C ol.toArray rest ⟨t, dd⟩ st Q) :
    EvOps C ol.toArray ({ dst := none, op := op, type := type, pos := pos, after := after, guard := some (j, want) } :: rest) ⟨t, dd⟩ st Q := EvOps.skip hw h
/-- A guard that is open. -/
theorem sG (hj : (ol[j]?).bind (·.dst) = some dj) (hb : tget t dj = .bool (decide p))
    (h1 : p → EvOps C ol.toArray ({ dst := dst, op := op, type := type, pos := pos, after := after, guard := some (j, want) } :: rest) ⟨t, dd⟩ st Q)
    (h0 : ¬ p → EvOps C ol.toArray ({ dst := dst, op := op, type := type, pos := pos, after := after, guard := some (j, want) } :: rest) ⟨t, dd⟩ st Q) :
    EvOps C ol.toArray ({ dst := dst, op := op, type := type, pos := pos, after := after, guard := some (j, want) } :: rest) ⟨t, dd⟩ st Q := by
  by_cases h : p
  · exact h1 h
  · exact h0 h
theorem sGB {q : Bool} (hj : (ol[j]?).bind (·.dst) = some dj) (hb : tget t dj = .bool q)
    (h1 : q = true → EvOps C ol.toArray ({ dst := dst, op := op, type := type, pos := pos, after := after, guard := some (j, want) } :: rest) ⟨t, dd⟩ st Q)
    (h0 : q = false → EvOps C ol.toArray ({ dst := dst, op := op, type := type, pos := pos, after := after, guard := some (j, want) } :: rest) ⟨t, dd⟩ st Q) :
    EvOps C ol.toArray ({ dst := dst, op := op, type := type, pos := pos, after := after, guard := some (j, want) } :: rest) ⟨t, dd⟩ st Q := by
  cases q
  · exact h0 rfl
  · exact h1 rfl
end

variable {ol : List Oper} {done rest' l : List Nat} {i : Nat} {guard : Option (Nat × Bool)}
theorem dQ (ho : ol[i]? = some { dst := some d, op := op, type := type, pos := pos, after := after, guard := guard }) (hh : hoistAt ol.toArray i = true) (hw : wantedV ⟨t, dd⟩ ol.toArray { dst := some d, op := op, type := type, pos := pos, after := after, guard := guard } = some true) (hq : quietOp C ⟨t, dd⟩ st op = some (v, st')) (h : EvPlan C ol.toArray (i :: done) rest' ⟨tset t d v, dd⟩ st' Q) :
    EvPlan C ol.toArray done (i :: rest') ⟨t, dd⟩ st Q := EvPlan.quiet (toA ho) hh hw hq h
theorem dS (ho : ol[i]? = some { dst := some d, op := op, type := type, pos := pos, after := after, guard := guard }) (hw : wantedV ⟨t, dd⟩ ol.toArray { dst := some d, op := op, type := type, pos := pos, after := after, guard := guard } = some false) (h : EvPlan C ol.toArray (i :: done) rest' ⟨tset t d (.tup []), dd⟩ st Q) :
    EvPlan C ol.toArray done (i :: rest') ⟨t, dd⟩ st Q := EvPlan.skip (toA ho) hw h
theorem dG {j : Nat} {want : Bool} {dj : Tmp} {p : Prop} [Decidable p] (ho : ol[i]? = some { dst := some d, op := op, type := type, pos := pos, after := after, guard := some (j, want) }) (hj : (ol[j]?).bind (·.dst) = some dj) (hb : tget t dj = .bool (decide p))
    (h1 : p → EvPlan C ol.toArray done (i :: rest') ⟨t, dd⟩ st Q) (h0 : ¬ p → EvPlan C ol.toArray done (i :: rest') ⟨t, dd⟩ st Q) : EvPlan C ol.toArray done (i :: rest') ⟨t, dd⟩ st Q := by
  by_cases h : p
  · exact h1 h
  · exact h0 h
theorem dL (ho : ol[i]? = some { dst := some d, op := op, type := type, pos := pos, after := after, guard := guard }) (hh : hoistAt ol.toArray i = false) (hi : hoist op = true) (hw : wantedV ⟨t, dd⟩ ol.toArray { dst := some d, op := op, type := type, pos := pos, after := after, guard := guard } = some true) (hq : quietOp C ⟨t, dd⟩ st op = some (v, st')) (hl : again ol.toArray done i = l) (hs : l.all (stillOk C ⟨tset t d v, dd⟩ st' ol.toArray) = true) (h : EvPlan C ol.toArray (i :: done) rest' ⟨tset t d v, dd⟩ st' Q) :
    EvPlan C ol.toArray done (i :: rest') ⟨t, dd⟩ st Q := EvPlan.late (toA ho) hh hi hw hq hl hs h
theorem dW (ho : ol[i]? = some { dst := some d, op := op, type := type, pos := pos, after := after, guard := guard }) (hh : hoistAt ol.toArray i = false) (hp : plainWr op = true) (hw : wantedV ⟨t, dd⟩ ol.toArray { dst := some d, op := op, type := type, pos := pos, after := after, guard := guard } = some true) (hq : wrOp C (callF C 0) (evalO C ⟨t, dd⟩) st op = some (v, st')) (hl : again ol.toArray done i = l) (hs : l.all (stillOk C ⟨tset t d v, dd⟩ st' ol.toArray) = true) (h : EvPlan C ol.toArray (i :: done) rest' ⟨tset t d v, dd⟩ st' Q) :
    EvPlan C ol.toArray done (i :: rest') ⟨t, dd⟩ st Q := EvPlan.wr (toA ho) hh hp hw hq hl hs h
theorem dWn (ho : ol[i]? = some { dst := none, op := op, type := type, pos := pos, after := after, guard := guard }) (hh : hoistAt ol.toArray i = false) (hp : plainWr op = true) (hw : wantedV ⟨t, dd⟩ ol.toArray { dst := none, op := op, type := type, pos := pos, after := after, guard := guard } = some true) (hq : wrOp C (callF C 0) (evalO C ⟨t, dd⟩) st op = some (v, st')) (hl : again ol.toArray done i = l) (hs : l.all (stillOk C ⟨t, dd⟩ st' ol.toArray) = true) (h : EvPlan C ol.toArray (i :: done) rest' ⟨t, dd⟩ st' Q) :
    EvPlan C ol.toArray done (i :: rest') ⟨t, dd⟩ st Q := EvPlan.wr (toA ho) hh hp hw hq hl hs h
theorem dC {g : Operand} {args : Array Operand} {ats : Array TypeId} {k : FuncId} {fi ca as : List V} (ho : ol[i]? = some { dst := some d, op := .call { callee := .value g, args := args, argTypes := ats }, type := type, pos := pos, after := after, guard := guard }) (hh : hoistAt ol.toArray i = false)
    (hw : wantedV ⟨t, dd⟩ ol.toArray { dst := some d, op := .call { callee := .value g, args := args, argTypes := ats }, type := type, pos := pos, after := after, guard := guard } = some true)
    (hg : evalO C ⟨t, dd⟩ g = .func (.func k) fi ca) (ha : fi ++ args.toList.map (evalO C ⟨t, dd⟩) ++ ca = as) (hc : FnS C k as st v st') (hl : again ol.toArray done i = l) (hs : l.all (stillOk C ⟨tset t d v, dd⟩ st' ol.toArray) = true)
    (h : EvPlan C ol.toArray (i :: done) rest' ⟨tset t d v, dd⟩ st' Q) : EvPlan C ol.toArray done (i :: rest') ⟨t, dd⟩ st Q :=
  EvPlan.call (toA ho) hh hw hg hl (by rw [ha]; exact hc.use ⟨hs, h⟩)
theorem dX {g : Operand} {args : Array Operand} {ats : Array TypeId} {k : FuncId} {fi ca as : List V} (ho : ol[i]? = some { dst := some d, op := .call { callee := .value g, args := args, argTypes := ats }, type := type, pos := pos, after := after, guard := guard }) (hh : hoistAt ol.toArray i = false)
    (hw : wantedV ⟨t, dd⟩ ol.toArray { dst := some d, op := .call { callee := .value g, args := args, argTypes := ats }, type := type, pos := pos, after := after, guard := guard } = some true)
    (hg : evalO C ⟨t, dd⟩ g = .func (.func k) fi ca) (ha : fi ++ args.toList.map (evalO C ⟨t, dd⟩) ++ ca = as) (hl : again ol.toArray done i = l)
    (hc : Fn C k as st fun v st' => l.all (stillOk C ⟨tset t d v, dd⟩ st' ol.toArray) = true ∧ EvPlan C ol.toArray (i :: done) rest' ⟨tset t d v, dd⟩ st' Q) : EvPlan C ol.toArray done (i :: rest') ⟨t, dd⟩ st Q :=
  EvPlan.call (toA ho) hh hw hg hl (by rw [ha]; exact hc)
end

/-! Some operations. -/
theorem qMake {C : Cfg} {t : TypeId} {l c : Operand} {f : Fr} {H : List (Nat × Ob)} {nn : Nat} {e : TypeId} {k : IntKind} {n s : Nat} {zs : List V} (hu : C.P.underlying t = some (.slice e)) (hl : evalO C f l = .int k (n : Int)) (hc : evalO C f c = .int k (n : Int))
    (hs : szOf C e = some s) (hz : (zeroV C e).bind cellsOf = some zs) (h1 : 0 < s) (h2 : zs.length = s) (h3 : n * byOf C e ≤ 2 ^ 47) (h4 : n < 2 ^ 62) :
    quietOp C f ⟨H, nn⟩ (.makeSlice t l c) = some (.msl nn 0 n n, ⟨(nn, .cells (List.replicate n zs).flatten) :: H, nn + 1⟩) := by
  have hr : rdOp C H (evalO C f) (.makeSlice t l c) = none := rfl
  unfold quietOp
  simp only [hr, alOp, hu, hl, hc, hs, hz]
  rw [if_pos ⟨by omega, Int.le_refl _, h1, h2, by exact_mod_cast h3, by exact_mod_cast h4⟩, if_pos True.intro, Int.toNat_natCast]
  rfl
/-- A place in a slice of the evaluator's memory. -/
theorem qAt {C : Cfg} {t : TypeId} {x ix : Operand} {f : Fr} {st : St} {e : TypeId} {k : IntKind} {i : Int} {b off len cap s : Nat} (hx : evalO C f x = .msl b off len cap) (hi : evalO C f ix = .int k i) (hu : C.P.underlying t = some (.slice e))
    (hs : szOf C e = some s) (h0 : 0 ≤ i) (h1 : i < len) (h2 : 0 < s) : quietOp C f st (.indexAddr t x ix) = some (.ptr b (off + i.toNat * s), st) := by
  rw [quiet_rd rfl]
  simp only [rdOp, hx, hi, indexAddrV, hu, hs]
  rw [if_pos ⟨h0, h1, h2⟩]
  rfl
theorem flatten_one (n : Nat) (v : V) : (List.replicate n [v]).flatten = List.replicate n v := by
  induction n with
  | zero => rfl
  | succ n ih => simp [List.replicate_succ, ih]

theorem allN {α : Type} {p : α → Bool} : ([] : List α).all p = true := rfl

/-- Bytes of a constant text, at a region's start. -/
theorem opsP {C : Cfg} {t : List (Nat × V)} {dd : List (V × List V)} {st : St} {Q : Ex → Fr → St → Prop} {id : Nat} {d d2 : Tmp} {ty len : Nat} {parts : Array (Nat × Operand)} {y1 y2 : TypeId} {p1 p2 : String} {a1 a2 : Array Edge} {rest : List Oper} {v : V}
    (hT : bytesT C ty = true) (hb : buildSliceV C ty len (parts.toList.map fun p => (p.1, evalO C ⟨t, dd⟩ p.2)) = some v)
    (h : EvOps C (({ dst := some d, op := .buildSlice ty len parts, type := y1, pos := p1, after := a1, guard := none } : Oper) :: { dst := some d2, op := .convert ty ty (.tmp d), type := y2, pos := p2, after := a2, guard := none } :: rest).toArray rest ⟨tset (tset t d v) d2 v, dd⟩ st (Q .normal)) :
    Ev C (.region id (({ dst := some d, op := .buildSlice ty len parts, type := y1, pos := p1, after := a1, guard := none } : Oper) :: { dst := some d2, op := .convert ty ty (.tmp d), type := y2, pos := p2, after := a2, guard := none } :: rest).toArray false) ⟨t, dd⟩ st Q := by
  refine Ev.opsC (f2 := ⟨tset (tset t d v) d2 v, dd⟩) (rest := rest) ?_ h
  have hb' : buildSliceV C ty len (parts.toList.map fun (i, x) => (i, evalO C ⟨t, dd⟩ x)) = some v := hb
  simp only [pairV, hT, hb', and_self, if_true, Option.map_some, Fr.put]

/-! What a goal is. -/
section
variable {C : Cfg} {ops : Array Oper} {rest : List Oper} {f : Fr} {st : St} {Q : Fr → St → Prop} {R : Ex → Fr → St → Prop} {dst : Option Tmp} {op : Op} {type : TypeId} {pos : String} {after : Array Edge} {g : Nat × Bool} {l : List Nat} {done : List Nat} {i : Nat} {c : Operand} {a b : Code}
theorem isO (h : EvOps C ops ({ dst := dst, op := op, type := type, pos := pos, after := after, guard := none } :: rest) f st Q) : EvOps C ops ({ dst := dst, op := op, type := type, pos := pos, after := after, guard := none } :: rest) f st Q := h
theorem isG (h : EvOps C ops ({ dst := dst, op := op, type := type, pos := pos, after := after, guard := some g } :: rest) f st Q) : EvOps C ops ({ dst := dst, op := op, type := type, pos := pos, after := after, guard := some g } :: rest) f st Q := h
theorem isP (h : EvPlan C ops done (i :: l) f st Q) : EvPlan C ops done (i :: l) f st Q := h
theorem isC (h : Ev C (.cond c a b) f st R) : Ev C (.cond c a b) f st R := h
theorem isR {ops : Array Oper} {id : Nat} (h : Ev C (.region id ops true) f st R) : Ev C (.region id ops true) f st R := h
end

theorem stillL {C : Cfg} {f : Fr} {st : St} {ol : List Oper} {i : Nat} {o : Oper} {d : Tmp} {v : V} (ho : ol[i]? = some o) (hw : wantedV f ol.toArray o = some true) (hd : o.dst = some d) (hq : rdOp C st.H (evalO C f) o.op = some v) (ht : v = tget f.t d) : stillOk C f st ol.toArray i = true :=
  stillOk_rd (toA ho) hw hd hq ht

/-! Leaves. -/
theorem leafP {fn : Func} {k : FuncId} {n0 : Nat} {e : Ex} {t : List (Nat × V)} {st : St} {v : V} {vs : List V} (he : e = .ret ∨ e = .normal) (hr : resultsV C st.H t fn.results.toList = some vs)
    (hv : (leaveV C k n0 (packV vs) st).1 = v) (hp : pureV v = true) : Lv C fn k n0 (fun v1 _ => pureV v1 = true ∧ v1 = v) e ⟨t, []⟩ st := by
  rcases he with rfl | rfl
  all_goals exact ⟨rfl, vs, hr, by rw [hv]; exact hp, hv⟩
/-- A function in its caller's memory, by its answer. -/
theorem goS {k : FuncId} {fn : Func} {c : Code} {args : List V} {st st' : St} {v : V} (hf : C.P.funcs[k]? = some fn) (hx : C.X k args st = none) (hp : C.pure k = false) (hb : fn.body = some c) (hl : decide (args.length ≤ fn.ntmps) = true)
    (h : ∀ t : List (Nat × V), (∀ i v, args[i]? = some v → tget t i = v) → Ev C c ⟨t, []⟩ st (Lv C fn k st.n fun v1 st1 => v1 = v ∧ st1 = st')) : FnS C k args st v st' := ⟨goI hf hx hp hb hl h⟩
theorem leafS {fn : Func} {k : FuncId} {n0 : Nat} {t : List (Nat × V)} {st st' : St} {v : V} {vs : List V} (hr : resultsV C st.H t fn.results.toList = some vs)
    (hv : leaveV C k n0 (packV vs) st = (v, st')) : Lv C fn k n0 (fun v1 st1 => v1 = v ∧ st1 = st') .ret ⟨t, []⟩ st := ⟨rfl, vs, hr, by rw [hv], by rw [hv]⟩
theorem leafR {fn : Func} {k : FuncId} {n0 : Nat} {t : List (Nat × V)} {st : St} {v : V} {vs : List V} (hr : resultsV C st.H t fn.results.toList = some vs)
    (hv : (leaveV C k n0 (packV vs) st).1 = v) (hp : pureV v = true) : Lv C fn k n0 (fun v1 _ => pureV v1 = true ∧ v1 = v) .ret ⟨t, []⟩ st := leafP (.inl rfl) hr hv hp
theorem leafN {fn : Func} {k : FuncId} {n0 : Nat} {t : List (Nat × V)} {st : St} {v : V} {vs : List V} (hr : resultsV C st.H t fn.results.toList = some vs)
    (hv : (leaveV C k n0 (packV vs) st).1 = v) (hp : pureV v = true) : Lv C fn k n0 (fun v1 _ => pureV v1 = true ∧ v1 = v) .normal ⟨t, []⟩ st := leafP (.inr rfl) hr hv hp
end
end Go.Vm
