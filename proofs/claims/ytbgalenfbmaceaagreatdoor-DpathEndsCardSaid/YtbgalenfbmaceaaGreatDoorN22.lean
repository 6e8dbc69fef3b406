/- Walks whose frames are known by what they hold at each place alone. -/
import Derived.Test.YtbgalenfbmaceaaGreatDoorN18
import Derived.Lib.LaidTab
set_option linter.unusedSimpArgs false
set_option linter.unusedVariables false
namespace Go.Vm
open Go Go.RowKit

/-! Numbers. -/
theorem wI64 {x : Int} (h1 : -9223372036854775808 ≤ x) (h2 : x ≤ 9223372036854775807) : IntKind.i64.wrap x = x := by
  simp [IntKind.wrap, IntKind.signed, IntKind.bits]; omega
theorem wI32 {x : Int} (h1 : -2147483648 ≤ x) (h2 : x ≤ 2147483647) : IntKind.i32.wrap x = x := by
  simp [IntKind.wrap, IntKind.signed, IntKind.bits]; omega
theorem wU8 (x : Int) : IntKind.u8.wrap x = x % 256 := by simp [IntKind.wrap, IntKind.signed, IntKind.bits]
theorem wU16 (x : Int) : IntKind.u16.wrap x = x % 65536 := by simp [IntKind.wrap, IntKind.signed, IntKind.bits]
theorem wU32 (x : Int) : IntKind.u32.wrap x = x % 4294967296 := by simp [IntKind.wrap, IntKind.signed, IntKind.bits]
theorem wU64 (x : Int) : IntKind.u64.wrap x = x % 18446744073709551616 := by simp [IntKind.wrap, IntKind.signed, IntKind.bits]
theorem beqD (a b : Int) : (a == b) = decide (a = b) := rfl
theorem bneD (a b : Int) : (a != b) = decide (a ≠ b) := by simp [bne, beqD]
theorem notD {p : Prop} [Decidable p] : (!decide p) = decide (¬ p) := by simp
theorem beqS (a b : List UInt8) : (a == b) = decide (a = b) := by
  by_cases h : a = b
  · subst h; simp
  · simp [h]

section
variable {C : Cfg}

theorem tgP (l : List (Nat × V)) (d t : Nat) (v : V) : tget (tset l d v) t = if t = d then v else tget l t := tget_tset l d t v

theorem tget_init : ∀ (l : List V) (k i : Nat) (v : V), l[i]? = some v → tget (initT k l) (k + i) = v
  | [], k, i, v, h => by simp at h
  | x :: l, k, 0, v, h => by simp at h; subst h; simp [initT, tget]
  | x :: l, k, i + 1, v, h => by
    simp only [initT, tget]
    have : (k == k + (i + 1)) = false := by simp
    rw [this]
    have := tget_init l (k + 1) i v (by simpa using h)
    rw [show k + 1 + i = k + (i + 1) by omega] at this
    simpa using this

theorem frame0_get {n : Nat} {args : List V} {i : Nat} {v : V} (h : args[i]? = some v) : tget (frame0 n args) i = v := by
  have := tget_init (args ++ List.replicate (n - args.length) .any) 0 i v (by
    rw [List.getElem?_append_left (List.getElem?_eq_some_iff.1 h).1]; exact h)
  simpa [frame0] using this

theorem evP {C : Cfg} :
    (∀ t d i, evalO C ⟨t, d⟩ (.tmp i) = tget t i) ∧
    (∀ f k n, evalO C f (.const (.int k n)) = .int k n) ∧ (∀ f b, evalO C f (.const (.bool b)) = .bool b) ∧ (∀ f s, evalO C f (.const (.string s)) = .str s.data.toList) ∧
    (∀ f, evalO C f (.const (.pointer none)) = .nilptr) ∧ (∀ f, evalO C f (.const (.slice none 0 0)) = .sl .full []) ∧ (∀ f, evalO C f (.const (.map none)) = .nilmap) ∧ (∀ f, evalO C f (.const .nilFunc) = .nilfunc) ∧ (∀ f, evalO C f (.const .nilIface) = .niliface) ∧
    (∀ f cs, evalO C f (.const (.agg cs)) = ofVal (.agg cs)) ∧ (∀ f k, evalO C f (.func k) = .func (.func k) [] []) ∧ (∀ f i, evalO C f (.global i) = C.glob i) :=
  ⟨fun _ _ _ => rfl, fun _ _ _ => rfl, fun _ _ => rfl, fun _ _ => rfl, fun _ => rfl, fun _ => rfl, fun _ => rfl, fun _ => rfl, fun _ => rfl, fun _ _ => rfl, fun _ _ => rfl, fun _ _ => rfl⟩

/-- A call answers v and leaves st'. -/
structure FnS (C : Cfg) (k : FuncId) (args : List V) (st : St) (v : V) (st' : St) : Prop where
  ex : Fn C k args st fun v1 st1 => v1 = v ∧ st1 = st'

section
variable {k : FuncId} {fn : Func} {c : Code} {args : List V} {st st' : St} {v : V} {Q : V → St → Prop}
theorem FnS.use (h : FnS C k args st v st') (hq : Q v st') : Fn C k args st Q := Fn.mono h.ex fun _ _ ⟨h1, h2⟩ => by subst h1; subst h2; exact hq

/-- A function with a memory of its own. -/
theorem goP (hf : C.P.funcs[k]? = some fn) (hx : C.X k args st = none) (hp : C.pure k = true) (hb : fn.body = some c) (hl : decide (args.length ≤ fn.ntmps) = true) (ha : pureVs (args.map unown) = true)
    (h : ∀ t : List (Nat × V), (∀ i v, (args.map unown)[i]? = some v → tget t i = v) → Ev C c ⟨t, []⟩ ⟨[], 0⟩ (Lv C fn k 0 fun v1 _ => pureV v1 = true ∧ v1 = v)) : FnS C k args st v st :=
  ⟨Fn.pure hf hx hp hb hl ha ((h _ fun i v hv => frame0_get hv).mono fun e f' st' hq => by
    cases e <;> try exact hq
    all_goals
      obtain ⟨h1, vs, h2, h3, h4⟩ := hq
      exact ⟨h1, vs, h2, h3, h4, rfl⟩)⟩
/-- A function in its caller's memory. -/
theorem goI (hf : C.P.funcs[k]? = some fn) (hx : C.X k args st = none) (hp : C.pure k = false) (hb : fn.body = some c) (hl : decide (args.length ≤ fn.ntmps) = true)
    (h : ∀ t : List (Nat × V), (∀ i v, args[i]? = some v → tget t i = v) → Ev C c ⟨t, []⟩ st (Lv C fn k st.n Q)) : Fn C k args st Q :=
  Fn.of hf hx hp hb hl (h _ fun i v hv => frame0_get hv)
end

section
variable {Q : Ex → Fr → St → Prop} {t : List (Nat × V)} {d : List (V × List V)} {st : St} {a b : Code} {c : Operand}
theorem condD {p : Prop} [Decidable p] (hc : evalO C ⟨t, d⟩ c = .bool (decide p)) (h1 : p → Ev C a ⟨t, d⟩ st Q) (h0 : ¬ p → Ev C b ⟨t, d⟩ st Q) : Ev C (.cond c a b) ⟨t, d⟩ st Q :=
  Ev.cond2 hc (fun h => h1 (of_decide_eq_true h)) (fun h => h0 (of_decide_eq_false h))
theorem condB {q : Bool} (hc : evalO C ⟨t, d⟩ c = .bool q) (h1 : q = true → Ev C a ⟨t, d⟩ st Q) (h0 : q = false → Ev C b ⟨t, d⟩ st Q) : Ev C (.cond c a b) ⟨t, d⟩ st Q := Ev.cond2 hc h1 h0

/-- A loop: what holds of the frame ahead of each round, and what each round lowers. -/
theorem loopT {b : Code} (Inv : Nat → List (Nat × V) → St → Prop) {n : Nat} (h0 : Inv n t st)
    (step : ∀ n t st, Inv n t st → Ev C b ⟨t, d⟩ st (Nx (fun f' st' => ∃ m, m < n ∧ f'.d = d ∧ Inv m f'.t st') Q)) : Ev C (.loop b) ⟨t, d⟩ st Q := by
  refine Ev.loop_ind (fun n f st => f.d = d ∧ Inv n f.t st) ⟨rfl, h0⟩ fun n f st h => ?_
  obtain ⟨t', d'⟩ := f
  obtain ⟨hd, hi⟩ := h
  simp only at hd hi
  subst hd
  refine (step n t' st hi).mono fun e f' st' hq => ?_
  cases e <;> exact hq
end

section
variable {ops : Array Oper} {rest : List Oper} {t : List (Nat × V)} {dd : List (V × List V)} {st st' : St} {Q : Fr → St → Prop} {v : V} {d : Tmp} {op : Op} {type : TypeId} {pos : String} {after : Array Edge}

theorem sQ (hq : quietOp C ⟨t, dd⟩ st op = some (v, st')) (h : EvOps C ops rest ⟨tset t d v, dd⟩ st' Q) :
    EvOps C ops ({ dst := some d, op := op, type := type, pos := pos, after := after, guard := none } :: rest) ⟨t, dd⟩ st Q := EvOps.quiet rfl hq h
theorem sMv {x : Operand} (hv : evalO C ⟨t, dd⟩ x = v) (h : EvOps C ops rest ⟨tset t d v, dd⟩ st Q) :
    EvOps C ops ({ dst := some d, op := .move x, type := type, pos := pos, after := after, guard := none } :: rest) ⟨t, dd⟩ st Q := sQ (by rw [← hv]; rfl) h
theorem sAs {x : Operand} (hv : evalO C ⟨t, dd⟩ x = v) (h : EvOps C ops rest ⟨tset t d v, dd⟩ st Q) :
    EvOps C ops ({ dst := some d, op := .assign x, type := type, pos := pos, after := after, guard := none } :: rest) ⟨t, dd⟩ st Q := sQ (by rw [← hv]; rfl) h
theorem sW (hp : plainWr op = true) (hq : wrOp C (callF C 0) (evalO C ⟨t, dd⟩) st op = some (v, st')) (h : EvOps C ops rest ⟨tset t d v, dd⟩ st' Q) :
    EvOps C ops ({ dst := some d, op := op, type := type, pos := pos, after := after, guard := none } :: rest) ⟨t, dd⟩ st Q := EvOps.wr rfl hp hq h
theorem sWn (hp : plainWr op = true) (hq : wrOp C (callF C 0) (evalO C ⟨t, dd⟩) st op = some (v, st')) (h : EvOps C ops rest ⟨t, dd⟩ st' Q) :
    EvOps C ops ({ dst := none, op := op, type := type, pos := pos, after := after, guard := none } :: rest) ⟨t, dd⟩ st Q := EvOps.wr rfl hp hq h
theorem sC {g : Operand} {args : Array Operand} {ats : Array TypeId} {k : FuncId} {fi ca as : List V} (hg : evalO C ⟨t, dd⟩ g = .func (.func k) fi ca) (ha : fi ++ args.toList.map (evalO C ⟨t, dd⟩) ++ ca = as)
    (hc : FnS C k as st v st') (h : EvOps C ops rest ⟨tset t d v, dd⟩ st' Q) :
    EvOps C ops ({ dst := some d, op := .call { callee := .value g, args := args, argTypes := ats }, type := type, pos := pos, after := after, guard := none } :: rest) ⟨t, dd⟩ st Q :=
  EvOps.call rfl hg (by rw [ha]; exact hc.use h)
/-- A call whose answer is known by a condition alone. -/
theorem sX {g : Operand} {args : Array Operand} {ats : Array TypeId} {k : FuncId} {fi ca as : List V} (hg : evalO C ⟨t, dd⟩ g = .func (.func k) fi ca) (ha : fi ++ args.toList.map (evalO C ⟨t, dd⟩) ++ ca = as)
    (hc : Fn C k as st fun v st' => EvOps C ops rest ⟨tset t d v, dd⟩ st' Q) :
    EvOps C ops ({ dst := some d, op := .call { callee := .value g, args := args, argTypes := ats }, type := type, pos := pos, after := after, guard := none } :: rest) ⟨t, dd⟩ st Q :=
  EvOps.call rfl hg (by rw [ha]; exact hc)

theorem toA {ol : List Oper} {i : Nat} {o : Oper} (h : ol[i]? = some o) : ol.toArray[i]? = some o := by rw [List.getElem?_toArray]; exact h

/-! Guards. -/
section
variable {ol : List Oper} {j : Nat} {want : Bool} {dj : Tmp} {dst : Option Tmp} {p : Prop} [Decidable p]
theorem wG {r b : Bool} (hj : (ol[j]?).bind (·.dst) = some dj) (hb : tget t dj = .bool b) (hr : (b == want) = r) :
    wantedV ⟨t, dd⟩ ol.toArray { dst := dst, op := op, type := type, pos := pos, after := after, guard := some (j, want) } = some r := by
  subst hr; simp only [wantedV, List.getElem?_toArray, hj, hb]
theorem wT {vs : List V} (hj : (ol[j]?).bind (·.dst) = some dj) (hb : tget t dj = .tup vs) :
    wantedV ⟨t, dd⟩ ol.toArray { dst := dst, op := op, type := type, pos := pos, after := after, guard := some (j, want) } = some false := by
  simp only [wantedV, List.getElem?_toArray, hj, hb]
theorem wN {f : Fr} {oo : Array Oper} : wantedV f oo { dst := dst, op := op, type := type, pos := pos, after := after, guard := none } = some true := rfl
theorem EvOps.unguard {g : Option (Nat × Bool)} (hw : wantedV ⟨t, dd⟩ ol.toArray { dst := dst, op := op, type := type, pos := pos, after := after, guard := g } = some true)
    (h : EvOps C ol.toArray ({ dst := dst, op := op, type := type, pos := pos, after := after, guard := none } :: rest) ⟨t, dd⟩ st Q) :
    EvOps C ol.toArray ({ dst := dst, op := op, type := type, pos := pos, after := after, guard := g } :: rest) ⟨t, dd⟩ st Q := by
  refine ⟨fun hC hP hX N w0 base g' w a hall hmem hG hgl hf hN R hR => ?_⟩
  have := h.ex hC hP hX hall (fun o ho d hd => by
    cases ho with
    | head => exact hmem _ List.mem_cons_self d hd
    | tail _ ho => exact hmem _ (List.mem_cons_of_mem _ ho) d hd) hG hgl hf hN R hR
  simp only [wpList] at this ⊢
  rw [if_pos (show Region.wanted ({ dst := dst, op := op, type := type, pos := pos, after := after, guard := none } : Oper) (yielded ol.toArray a.tmps) = true from rfl)] at this
  rw [if_pos (wantedV_sound (fun i _ => hf.t i) (fun i hi => by rw [hN]; exact opsOk_guard hall _ i hi) hw)]
  exact this
theorem sR (hj : (ol[j]?).bind (·.dst) = some dj) (hb : tget t dj = .bool want) (h : EvOps C ol.toArray ({ dst := dst, op := op, type := type, pos := pos, after := after, guard := none } :: rest) ⟨t, dd⟩ st Q) :
    EvOps C ol.toArray ({ dst := dst, op := op, type := type, pos := pos, after := after, guard := some (j, want) } :: rest) ⟨t, dd⟩ st Q := EvOps.unguard (wG hj hb (by simp)) h
theorem sS (hw : wantedV ⟨t, dd⟩ ol.toArray { dst := some d, op := op, type := type, pos := pos, after := after, guard := some (j, want) } = some false) (h : EvOps C ol.toArray rest ⟨tset t d (.tup []), dd⟩ st Q) :
    EvOps C ol.toArray ({ dst := some d, op := op, type := type, pos := pos, after := after, guard := some (j, want) } :: rest) ⟨t, dd⟩ st Q := EvOps.skip hw h
/-- A guard that is open. -/
theorem sG (hj : (ol[j]?).bind (·.dst) = some dj) (hb : tget t dj = .bool (decide p))
    (h1 : p → EvOps C ol.toArray ({ dst := dst, op := op, type := type, pos := pos, after := after, guard := some (j, want) } :: rest) ⟨t, dd⟩ st Q)
    (h0 : ¬ p → EvOps C ol.toArray ({ dst := dst, op := op, type := type, pos := pos, after := after, guard := some (j, want) } :: rest) ⟨t, dd⟩ st Q) :
    EvOps C ol.toArray ({ dst := dst, op := op, type := type, pos := pos, after := after, guard := some (j, want) } :: rest) ⟨t, dd⟩ st Q := by
  by_cases h : p
  · exact h1 h
  · exact h0 h
theorem sGB {q : Bool} (hj : (ol[j]?).bind (·.dst) = some dj) (hb : tget t dj = .bool q)
    (h1 : q = true → EvOps C ol.toArray ({ dst := dst, op := op, type := type, pos := pos, after := after, guard := some (j, want) } :: rest) ⟨t, dd⟩ st Q)
    (h0 : q = false → EvOps C ol.toArray ({ dst := dst, op := op, type := type, pos := pos, after := after, guard := some (j, want) } :: rest) ⟨t, dd⟩ st Q) :
    EvOps C ol.toArray ({ dst := dst, op := op, type := type, pos := pos, after := after, guard := some (j, want) } :: rest) ⟨t, dd⟩ st Q := by
  cases q
  · exact h0 rfl
  · exact h1 rfl
end

variable {ol : List Oper} {done rest' l : List Nat} {i : Nat} {guard : Option (Nat × Bool)}
theorem dQ (ho : ol[i]? = some { dst := some d, op := op, type := type, pos := pos, after := after, guard := guard }) (hh : hoistAt ol.toArray i = true) (hw : wantedV ⟨t, dd⟩ ol.toArray { dst := some d, op := op, type := type, pos := pos, after := after, guard := guard } = some true) (hq : quietOp C ⟨t, dd⟩ st op = some (v, st')) (h : EvPlan C ol.toArray (i :: done) rest' ⟨tset t d v, dd⟩ st' Q) :
    EvPlan C ol.toArray done (i :: rest') ⟨t, dd⟩ st Q := EvPlan.quiet (toA ho) hh hw hq h
theorem dS (ho : ol[i]? = some { dst := some d, op := op, type := type, pos := pos, after := after, guard := guard }) (hw : wantedV ⟨t, dd⟩ ol.toArray { dst := some d, op := op, type := type, pos := pos, after := after, guard := guard } = some false) (h : EvPlan C ol.toArray (i :: done) rest' ⟨tset t d (.tup []), dd⟩ st Q) :
    EvPlan C ol.toArray done (i :: rest') ⟨t, dd⟩ st Q := EvPlan.skip (toA ho) hw h
theorem dG {j : Nat} {want : Bool} {dj : Tmp} {p : Prop} [Decidable p] (ho : ol[i]? = some { dst := some d, op := op, type := type, pos := pos, after := after, guard := some (j, want) }) (hj : (ol[j]?).bind (·.dst) = some dj) (hb : tget t dj = .bool (decide p))
    (h1 : p → EvPlan C ol.toArray done (i :: rest') ⟨t, dd⟩ st Q) (h0 : ¬ p → EvPlan C ol.toArray done (i :: rest') ⟨t, dd⟩ st Q) : EvPlan C ol.toArray done (i :: rest') ⟨t, dd⟩ st Q := by
  by_cases h : p
  · exact h1 h
  · exact h0 h
theorem dW (ho : ol[i]? = some { dst := some d, op := op, type := type, pos := pos, after := after, guard := guard }) (hh : hoistAt ol.toArray i = false) (hp : plainWr op = true) (hw : wantedV ⟨t, dd⟩ ol.toArray { dst := some d, op := op, type := type, pos := pos, after := after, guard := guard } = some true) (hq : wrOp C (callF C 0) (evalO C ⟨t, dd⟩) st op = some (v, st')) (hl : again ol.toArray done i = l) (hs : l.all (stillOk C ⟨tset t d v, dd⟩ st' ol.toArray) = true) (h : EvPlan C ol.toArray (i :: done) rest' ⟨tset t d v, dd⟩ st' Q) :
    EvPlan C ol.toArray done (i :: rest') ⟨t, dd⟩ st Q := EvPlan.wr (toA ho) hh hp hw hq hl hs h
theorem dWn (ho : ol[i]? = some { dst := none, op := op, type := type, pos := pos, after := after, guard := guard }) (hh : hoistAt ol.toArray i = false) (hp : plainWr op = true) (hw : wantedV ⟨t, dd⟩ ol.toArray { dst := none, op := op, type := type, pos := pos, after := after, guard := guard } = some true) (hq : wrOp C (callF C 0) (evalO C ⟨t, dd⟩) st op = some (v, st')) (hl : again ol.toArray done i = l) (hs : l.all (stillOk C ⟨t, dd⟩ st' ol.toArray) = true) (h : EvPlan C ol.toArray (i :: done) rest' ⟨t, dd⟩ st' Q) :
    EvPlan C ol.toArray done (i :: rest') ⟨t, dd⟩ st Q := EvPlan.wr (toA ho) hh hp hw hq hl hs h
theorem dC {g : Operand} {args : Array Operand} {ats : Array TypeId} {k : FuncId} {fi ca as : List V} (ho : ol[i]? = some { dst := some d, op := .call { callee := .value g, args := args, argTypes := ats }, type := type, pos := pos, after := after, guard := guard }) (hh : hoistAt ol.toArray i = false)
    (hw : wantedV ⟨t, dd⟩ ol.toArray { dst := some d, op := .call { callee := .value g, args := args, argTypes := ats }, type := type, pos := pos, after := after, guard := guard } = some true)
    (hg : evalO C ⟨t, dd⟩ g = .func (.func k) fi ca) (ha : fi ++ args.toList.map (evalO C ⟨t, dd⟩) ++ ca = as) (hc : FnS C k as st v st') (hl : again ol.toArray done i = l) (hs : l.all (stillOk C ⟨tset t d v, dd⟩ st' ol.toArray) = true)
    (h : EvPlan C ol.toArray (i :: done) rest' ⟨tset t d v, dd⟩ st' Q) : EvPlan C ol.toArray done (i :: rest') ⟨t, dd⟩ st Q :=
  EvPlan.call (toA ho) hh hw hg hl (by rw [ha]; exact hc.use ⟨hs, h⟩)
theorem dX {g : Operand} {args : Array Operand} {ats : Array TypeId} {k : FuncId} {fi ca as : List V} (ho : ol[i]? = some { dst := some d, op := .call { callee := .value g, args := args, argTypes := ats }, type := type, pos := pos, after := after, guard := guard }) (hh : hoistAt ol.toArray i = false)
    (hw : wantedV ⟨t, dd⟩ ol.toArray { dst := some d, op := .call { callee := .value g, args := args, argTypes := ats }, type := type, pos := pos, after := after, guard := guard } = some true)
    (hg : evalO C ⟨t, dd⟩ g = .func (.func k) fi ca) (ha : fi ++ args.toList.map (evalO C ⟨t, dd⟩) ++ ca = as) (hl : again ol.toArray done i = l)
    (hc : Fn C k as st fun v st' => l.all (stillOk C ⟨tset t d v, dd⟩ st' ol.toArray) = true ∧ EvPlan C ol.toArray (i :: done) rest' ⟨tset t d v, dd⟩ st' Q) : EvPlan C ol.toArray done (i :: rest') ⟨t, dd⟩ st Q :=
  EvPlan.call (toA ho) hh hw hg hl (by rw [ha]; exact hc)
end

/-! Some operations. -/
theorem qMake {C : Cfg} {t : TypeId} {l c : Operand} {f : Fr} {H : List (Nat × Ob)} {nn : Nat} {e : TypeId} {k : IntKind} {n s : Nat} {zs : List V} (hu : C.P.underlying t = some (.slice e)) (hl : evalO C f l = .int k (n : Int)) (hc : evalO C f c = .int k (n : Int))
    (hs : szOf C e = some s) (hz : (zeroV C e).bind cellsOf = some zs) (h1 : 0 < s) (h2 : zs.length = s) (h3 : n * byOf C e ≤ 2 ^ 47) (h4 : n < 2 ^ 62) :
    quietOp C f ⟨H, nn⟩ (.makeSlice t l c) = some (.msl nn 0 n n, ⟨(nn, .cells (List.replicate n zs).flatten) :: H, nn + 1⟩) := by
  have hr : rdOp C H (evalO C f) (.makeSlice t l c) = none := rfl
  unfold quietOp
  simp only [hr, alOp, hu, hl, hc, hs, hz]
  rw [if_pos ⟨by omega, Int.le_refl _, h1, h2, by exact_mod_cast h3, by exact_mod_cast h4⟩, if_pos True.intro, Int.toNat_natCast]
  rfl
/-! What a goal is. -/
section
variable {C : Cfg} {ops : Array Oper} {rest : List Oper} {f : Fr} {st : St} {Q : Fr → St → Prop} {R : Ex → Fr → St → Prop} {dst : Option Tmp} {op : Op} {type : TypeId} {pos : String} {after : Array Edge} {g : Nat × Bool} {l : List Nat} {done : List Nat} {i : Nat} {c : Operand} {a b : Code}
theorem isO (h : EvOps C ops ({ dst := dst, op := op, type := type, pos := pos, after := after, guard := none } :: rest) f st Q) : EvOps C ops ({ dst := dst, op := op, type := type, pos := pos, after := after, guard := none } :: rest) f st Q := h
theorem isG (h : EvOps C ops ({ dst := dst, op := op, type := type, pos := pos, after := after, guard := some g } :: rest) f st Q) : EvOps C ops ({ dst := dst, op := op, type := type, pos := pos, after := after, guard := some g } :: rest) f st Q := h
theorem isP (h : EvPlan C ops done (i :: l) f st Q) : EvPlan C ops done (i :: l) f st Q := h
theorem isC (h : Ev C (.cond c a b) f st R) : Ev C (.cond c a b) f st R := h
theorem isR {ops : Array Oper} {id : Nat} (h : Ev C (.region id ops true) f st R) : Ev C (.region id ops true) f st R := h
end

theorem stillL {C : Cfg} {f : Fr} {st : St} {ol : List Oper} {i : Nat} {o : Oper} {d : Tmp} {v : V} (ho : ol[i]? = some o) (hw : wantedV f ol.toArray o = some true) (hd : o.dst = some d) (hq : rdOp C st.H (evalO C f) o.op = some v) (ht : v = tget f.t d) : stillOk C f st ol.toArray i = true :=
  stillOk_rd (toA ho) hw hd hq ht

/-! Leaves. -/
theorem leafP {fn : Func} {k : FuncId} {n0 : Nat} {e : Ex} {t : List (Nat × V)} {st : St} {v : V} {vs : List V} (he : e = .ret ∨ e = .normal) (hr : resultsV C st.H t fn.results.toList = some vs)
    (hv : (leaveV C k n0 (packV vs) st).1 = v) (hp : pureV v = true) : Lv C fn k n0 (fun v1 _ => pureV v1 = true ∧ v1 = v) e ⟨t, []⟩ st := by
  rcases he with rfl | rfl
  all_goals exact ⟨rfl, vs, hr, by rw [hv]; exact hp, hv⟩
/-- A function in its caller's memory, by its answer. -/
theorem goS {k : FuncId} {fn : Func} {c : Code} {args : List V} {st st' : St} {v : V} (hf : C.P.funcs[k]? = some fn) (hx : C.X k args st = none) (hp : C.pure k = false) (hb : fn.body = some c) (hl : decide (args.length ≤ fn.ntmps) = true)
    (h : ∀ t : List (Nat × V), (∀ i v, args[i]? = some v → tget t i = v) → Ev C c ⟨t, []⟩ st (Lv C fn k st.n fun v1 st1 => v1 = v ∧ st1 = st')) : FnS C k args st v st' := ⟨goI hf hx hp hb hl h⟩
theorem leafS {fn : Func} {k : FuncId} {n0 : Nat} {t : List (Nat × V)} {st st' : St} {v : V} {vs : List V} (hr : resultsV C st.H t fn.results.toList = some vs)
    (hv : leaveV C k n0 (packV vs) st = (v, st')) : Lv C fn k n0 (fun v1 st1 => v1 = v ∧ st1 = st') .ret ⟨t, []⟩ st := ⟨rfl, vs, hr, by rw [hv], by rw [hv]⟩
theorem leafR {fn : Func} {k : FuncId} {n0 : Nat} {t : List (Nat × V)} {st : St} {v : V} {vs : List V} (hr : resultsV C st.H t fn.results.toList = some vs)
    (hv : (leaveV C k n0 (packV vs) st).1 = v) (hp : pureV v = true) : Lv C fn k n0 (fun v1 _ => pureV v1 = true ∧ v1 = v) .ret ⟨t, []⟩ st := leafP (.inl rfl) hr hv hp
end
end Go.Vm
/- Known functions that answer rows of texts; tables. -/
namespace Go.Vm
open Go Go.RowKit

end Go.Vm
/- Loops by a label. -/
namespace Go.Vm
open Go Go.RowKit

section
variable {C : Cfg} {f : Fr} {st : St} {Q : Ex → Fr → St → Prop}

/-- Code, piece behind piece. -/
def EvLd (C : Cfg) : List Code → Fr → St → (Ex → Fr → St → Prop) → Prop
  | [], f, st, Q => Q .normal f st
  | c :: l, f, st, Q => Ev C c f st (Nx (fun f' st' => EvLd C l f' st' Q) Q)
structure EvL (C : Cfg) (l : List Code) (f : Fr) (st : St) (Q : Ex → Fr → St → Prop) : Prop where
  ex : EvLd C l f st Q

theorem EvL.nil (h : Q .normal f st) : EvL C [] f st Q := ⟨h⟩
theorem EvL.cons {c : Code} {l : List Code} (h : Ev C c f st (Nx (fun f' st' => EvL C l f' st' Q) Q)) : EvL C (c :: l) f st Q :=
  ⟨h.mono fun e f' st' hq => by cases e <;> first | exact hq | exact hq.ex⟩

theorem EvLd.mono : ∀ {l : List Code} {f : Fr} {st : St} {Q Q' : Ex → Fr → St → Prop}, EvLd C l f st Q → (∀ e f' st', Q e f' st' → Q' e f' st') → EvLd C l f st Q'
  | [], f, st, Q, Q', h, hq => hq _ _ _ h
  | c :: l, f, st, Q, Q', h, hq => Ev.mono h fun e f' st' h' => by
    cases e <;> first | exact hq _ _ _ h' | exact EvLd.mono h' hq

theorem EvLd.append : ∀ {l m : List Code} {f : Fr} {st : St} {Q : Ex → Fr → St → Prop}, EvLd C l f st (Nx (fun f' st' => EvLd C m f' st' Q) Q) → EvLd C (l ++ m) f st Q
  | [], m, f, st, Q, h => h
  | c :: l, m, f, st, Q, h => Ev.mono h fun e f' st' h' => by
    cases e <;> first | exact h' | exact EvLd.append h'
theorem EvLd.split : ∀ {l m : List Code} {f : Fr} {st : St} {Q : Ex → Fr → St → Prop}, EvLd C (l ++ m) f st Q → EvLd C l f st (Nx (fun f' st' => EvLd C m f' st' Q) Q)
  | [], m, f, st, Q, h => h
  | c :: l, m, f, st, Q, h => Ev.mono h fun e f' st' h' => by
    cases e <;> first | exact h' | exact EvLd.split h'

/-- The pieces of code. -/
def flat : Code → List Code
  | .seq a b => flat a ++ flat b
  | c => [c]

theorem ev_flat : ∀ {c : Code} {f : Fr} {st : St} {Q : Ex → Fr → St → Prop}, EvLd C (flat c) f st Q → Ev C c f st Q := by
  intro c
  induction c with
  | seq a b iha ihb =>
    intro f st Q h
    refine Ev.seq ((iha (EvLd.split h)).mono fun e f' st' hq => ?_)
    cases e <;> first | exact hq | exact ihb hq
  | _ => intro f st Q h; exact Ev.mono h fun e f' st' hq => by cases e <;> exact hq

/-- The pieces ahead of a label, and behind it. -/
def preL (l : Nat) : List Code → List Code
  | [] => []
  | .label l' :: r => if l' = l then [] else .label l' :: preL l r
  | c :: r => c :: preL l r
def postL (l : Nat) : List Code → List Code
  | [] => []
  | .label l' :: r => if l' = l then r else postL l r
  | _ :: r => postL l r

theorem scope_loop {b rest : Code} {l : Nat} {t : List (Nat × V)} (hf : findLabel b l = some rest) (hp : flat b = preL l (flat b) ++ .label l :: postL l (flat b)) (hr : flat rest = .skip :: postL l (flat b)) (Inv : Nat → List (Nat × V) → St → Prop)
    (start : EvL C (preL l (flat b)) ⟨t, []⟩ st (Nx (fun f' st' => f'.d = [] ∧ ∃ n, Inv n f'.t st') (Gx (Jx C b Q) Q)))
    (step : ∀ n t st, Inv n t st → (∀ t' st', (∃ m, m < n ∧ Inv m t' st') → EvS C b rest ⟨t', []⟩ st' Q) → EvL C (postL l (flat b)) ⟨t, []⟩ st (Gx (Jx C b Q) Q)) : Ev C (.scope b) ⟨t, []⟩ st Q := by
  have toS : ∀ t st, EvL C (postL l (flat b)) ⟨t, []⟩ st (Gx (Jx C b Q) Q) → EvS C b rest ⟨t, []⟩ st Q := fun t st h => by
    refine EvS.of (ev_flat ?_)
    rw [hr]
    exact Ev.skip h.ex
  have key : ∀ n t st, Inv n t st → EvL C (postL l (flat b)) ⟨t, []⟩ st (Gx (Jx C b Q) Q) := by
    intro n
    induction n using Nat.strongRecOn with
    | _ n ih =>
      intro t st hi
      exact step n t st hi fun t' st' ⟨m, hm, hi'⟩ => toS t' st' (ih m hm t' st' hi')
  refine Ev.scope (EvS.of (ev_flat ?_))
  rw [hp]
  refine EvLd.append (start.ex.mono fun e f' st' hq => ?_)
  cases e <;> first | exact hq | skip
  obtain ⟨hd, n, hi⟩ := hq
  obtain ⟨t', d'⟩ := f'
  simp only at hd hi
  subst hd
  exact Ev.label (key n t' st' hi).ex
end
end Go.Vm
/- The walker's rules, each with its own proof of what it asks: the names ex, exd, tyE, tyX, cvE and bdE are those of the text that uses a rule. -/
namespace Go.Vm
open Go Go.RowKit
/-- Nothing: where a walk names no equation of its own. -/
def zzz : Nat := 0
theorem exd : zzz = 0 := rfl
section
variable {C : Cfg} {ops : Array Oper} {rest : List Oper} {t : List (Nat × V)} {dd : List (V × List V)} {st st' : St} {Q : Fr → St → Prop} {v : V} {d : Tmp} {op : Op} {type : TypeId} {pos : String} {after : Array Edge}
theorem mvA {x : Operand} (hv : evalO C ⟨t, dd⟩ x = v := by simp only [↓evP, ↓tgP, ↓reduceIte, Nat.reduceEqDiff, reduceCtorEq, List.map_cons, List.map_nil, List.nil_append, List.append_nil, List.toList_toArray, Int.reduceLE, Int.reduceLT, Int.reduceEq, Int.reduceNe, Int.reduceGT, Int.reduceGE, decide_true, decide_false, ex]; with_reducible rfl) (h : EvOps C ops rest ⟨tset t d v, dd⟩ st Q) : EvOps C ops ({ dst := some d, op := .move x, type := type, pos := pos, after := after, guard := none } :: rest) ⟨t, dd⟩ st Q := sMv hv h
theorem asA {x : Operand} (hv : evalO C ⟨t, dd⟩ x = v := by simp only [↓evP, ↓tgP, ↓reduceIte, Nat.reduceEqDiff, reduceCtorEq, List.map_cons, List.map_nil, List.nil_append, List.append_nil, List.toList_toArray, Int.reduceLE, Int.reduceLT, Int.reduceEq, Int.reduceNe, Int.reduceGT, Int.reduceGE, decide_true, decide_false, ex]; with_reducible rfl) (h : EvOps C ops rest ⟨tset t d v, dd⟩ st Q) : EvOps C ops ({ dst := some d, op := .assign x, type := type, pos := pos, after := after, guard := none } :: rest) ⟨t, dd⟩ st Q := sAs hv h
theorem quA (hq : quietOp C ⟨t, dd⟩ st op = some (v, st') := by simp (disch := (first | assumption | omega)) only [↓opE, ↓evP, stE, binE, ldE, ↓tgP, ↓reduceIte, clE, ncE, szE, hgE, intBin, shiftBin, strBin, unV, indexAddrV, indexV, lenV, partV, isAggT, sliceV, boundsV, bndV, asIntV, fieldAddrV, fieldV, putAt, nilCheckV, stripAgg, stripCell, decide_eq_true_eq, beqD, bneD, notD, beqS, if_true, if_false, ite_true, ite_false, Bool.true_eq_false, Bool.false_eq_true, Nat.reduceEqDiff, Nat.reduceBEq, Nat.reduceAdd, Nat.reduceSub, Nat.reduceMul, Nat.min_def, Nat.reducePow, Nat.reduceLeDiff, Nat.reduceLT, Int.reduceEq, Int.reduceNe, Int.reduceLT, Int.reduceLE, Int.reduceToNat, Int.reduceAdd, Int.reduceSub, Int.reduceMul, Int.reducePow, Int.reduceNeg, Option.map_some, Option.map_none, Option.bind_some, Option.getD_some, Option.getD_none, ofBytes_length, ofBytes_get, ofBytes_take, ofBytes_drop, Int.toNat_natCast, Int.natCast_nonneg, and_self, true_and, and_true, List.getElem?_cons_zero, List.getElem?_cons_succ, decide_true, decide_false, Bool.not_true, Bool.not_false, List.getElem_toArray, List.getElem?_toArray, List.getElem_cons_succ, List.getElem_cons_zero, List.toList_toArray, List.map_cons, List.map_nil, List.take_succ_cons, List.take_zero, List.drop_succ_cons, List.drop_zero, List.length_cons, List.length_nil, List.nil_append, List.cons_append, List.append_nil, Nat.le_refl, Nat.zero_add, Nat.mul_one, Nat.add_zero, Nat.zero_lt_one, List.length_singleton, IntKind.bits, reduceCtorEq, not_true_eq_false, not_false_eq_true, ne_eq, if_pos, if_neg, wI64, wI32, wU8, wU16, wU32, wU64, Int.emod_eq_of_lt, Int.fdiv_eq_ediv_of_nonneg, Int.tdiv_eq_ediv_of_nonneg, Int.tmod_eq_emod_of_nonneg, hdel, tyE, tyX, cvE, bdE, ↓exd, ex]; with_reducible rfl) (h : EvOps C ops rest ⟨tset t d v, dd⟩ st' Q) : EvOps C ops ({ dst := some d, op := op, type := type, pos := pos, after := after, guard := none } :: rest) ⟨t, dd⟩ st Q := sQ hq h
theorem wnA (hp : plainWr op = true := by rfl) (hq : wrOp C (callF C 0) (evalO C ⟨t, dd⟩) st op = some (v, st') := by simp (disch := (first | assumption | omega)) only [↓opE, ↓evP, stE, binE, ldE, ↓tgP, ↓reduceIte, clE, ncE, szE, hgE, intBin, shiftBin, strBin, unV, indexAddrV, indexV, lenV, partV, isAggT, sliceV, boundsV, bndV, asIntV, fieldAddrV, fieldV, putAt, nilCheckV, stripAgg, stripCell, decide_eq_true_eq, beqD, bneD, notD, beqS, if_true, if_false, ite_true, ite_false, Bool.true_eq_false, Bool.false_eq_true, Nat.reduceEqDiff, Nat.reduceBEq, Nat.reduceAdd, Nat.reduceSub, Nat.reduceMul, Nat.min_def, Nat.reducePow, Nat.reduceLeDiff, Nat.reduceLT, Int.reduceEq, Int.reduceNe, Int.reduceLT, Int.reduceLE, Int.reduceToNat, Int.reduceAdd, Int.reduceSub, Int.reduceMul, Int.reducePow, Int.reduceNeg, Option.map_some, Option.map_none, Option.bind_some, Option.getD_some, Option.getD_none, ofBytes_length, ofBytes_get, ofBytes_take, ofBytes_drop, Int.toNat_natCast, Int.natCast_nonneg, and_self, true_and, and_true, List.getElem?_cons_zero, List.getElem?_cons_succ, decide_true, decide_false, Bool.not_true, Bool.not_false, List.getElem_toArray, List.getElem?_toArray, List.getElem_cons_succ, List.getElem_cons_zero, List.toList_toArray, List.map_cons, List.map_nil, List.take_succ_cons, List.take_zero, List.drop_succ_cons, List.drop_zero, List.length_cons, List.length_nil, List.nil_append, List.cons_append, List.append_nil, Nat.le_refl, Nat.zero_add, Nat.mul_one, Nat.add_zero, Nat.zero_lt_one, List.length_singleton, IntKind.bits, reduceCtorEq, not_true_eq_false, not_false_eq_true, ne_eq, if_pos, if_neg, wI64, wI32, wU8, wU16, wU32, wU64, Int.emod_eq_of_lt, Int.fdiv_eq_ediv_of_nonneg, Int.tdiv_eq_ediv_of_nonneg, Int.tmod_eq_emod_of_nonneg, wrOp, storeH, hset, hdel, tyE, tyX, cvE, bdE, ↓exd, ex]; with_reducible rfl) (h : EvOps C ops rest ⟨t, dd⟩ st' Q) : EvOps C ops ({ dst := none, op := op, type := type, pos := pos, after := after, guard := none } :: rest) ⟨t, dd⟩ st Q := sWn hp hq h
theorem waA (hp : plainWr op = true := by rfl) (hq : wrOp C (callF C 0) (evalO C ⟨t, dd⟩) st op = some (v, st') := by simp (disch := (first | assumption | omega)) only [↓opE, ↓evP, stE, binE, ldE, ↓tgP, ↓reduceIte, clE, ncE, szE, hgE, intBin, shiftBin, strBin, unV, indexAddrV, indexV, lenV, partV, isAggT, sliceV, boundsV, bndV, asIntV, fieldAddrV, fieldV, putAt, nilCheckV, stripAgg, stripCell, decide_eq_true_eq, beqD, bneD, notD, beqS, if_true, if_false, ite_true, ite_false, Bool.true_eq_false, Bool.false_eq_true, Nat.reduceEqDiff, Nat.reduceBEq, Nat.reduceAdd, Nat.reduceSub, Nat.reduceMul, Nat.min_def, Nat.reducePow, Nat.reduceLeDiff, Nat.reduceLT, Int.reduceEq, Int.reduceNe, Int.reduceLT, Int.reduceLE, Int.reduceToNat, Int.reduceAdd, Int.reduceSub, Int.reduceMul, Int.reducePow, Int.reduceNeg, Option.map_some, Option.map_none, Option.bind_some, Option.getD_some, Option.getD_none, ofBytes_length, ofBytes_get, ofBytes_take, ofBytes_drop, Int.toNat_natCast, Int.natCast_nonneg, and_self, true_and, and_true, List.getElem?_cons_zero, List.getElem?_cons_succ, decide_true, decide_false, Bool.not_true, Bool.not_false, List.getElem_toArray, List.getElem?_toArray, List.getElem_cons_succ, List.getElem_cons_zero, List.toList_toArray, List.map_cons, List.map_nil, List.take_succ_cons, List.take_zero, List.drop_succ_cons, List.drop_zero, List.length_cons, List.length_nil, List.nil_append, List.cons_append, List.append_nil, Nat.le_refl, Nat.zero_add, Nat.mul_one, Nat.add_zero, Nat.zero_lt_one, List.length_singleton, IntKind.bits, reduceCtorEq, not_true_eq_false, not_false_eq_true, ne_eq, if_pos, if_neg, wI64, wI32, wU8, wU16, wU32, wU64, Int.emod_eq_of_lt, Int.fdiv_eq_ediv_of_nonneg, Int.tdiv_eq_ediv_of_nonneg, Int.tmod_eq_emod_of_nonneg, wrOp, hdel, tyE, tyX, cvE, bdE, ↓exd, ex]; with_reducible rfl) (h : EvOps C ops rest ⟨tset t d v, dd⟩ st' Q) : EvOps C ops ({ dst := some d, op := op, type := type, pos := pos, after := after, guard := none } :: rest) ⟨t, dd⟩ st Q := sW hp hq h
section
variable {g : Operand} {args : Array Operand} {ats : Array TypeId} {k : FuncId} {fi ca as : List V}
theorem caA (hg : evalO C ⟨t, dd⟩ g = .func (.func k) fi ca := by simp only [↓evP, ↓tgP, ↓reduceIte, Nat.reduceEqDiff, reduceCtorEq, List.map_cons, List.map_nil, List.nil_append, List.append_nil, List.toList_toArray, Int.reduceLE, Int.reduceLT, Int.reduceEq, Int.reduceNe, Int.reduceGT, Int.reduceGE, decide_true, decide_false, ex]; with_reducible rfl) (ha : fi ++ args.toList.map (evalO C ⟨t, dd⟩) ++ ca = as := by (simp (disch := (first | assumption | omega)) only [↓opE, ↓evP, stE, binE, ldE, ↓tgP, ↓reduceIte, clE, ncE, szE, hgE, intBin, shiftBin, strBin, unV, indexAddrV, indexV, lenV, partV, isAggT, sliceV, boundsV, bndV, asIntV, fieldAddrV, fieldV, putAt, nilCheckV, stripAgg, stripCell, decide_eq_true_eq, beqD, bneD, notD, beqS, if_true, if_false, ite_true, ite_false, Bool.true_eq_false, Bool.false_eq_true, Nat.reduceEqDiff, Nat.reduceBEq, Nat.reduceAdd, Nat.reduceSub, Nat.reduceMul, Nat.min_def, Nat.reducePow, Nat.reduceLeDiff, Nat.reduceLT, Int.reduceEq, Int.reduceNe, Int.reduceLT, Int.reduceLE, Int.reduceToNat, Int.reduceAdd, Int.reduceSub, Int.reduceMul, Int.reducePow, Int.reduceNeg, Option.map_some, Option.map_none, Option.bind_some, Option.getD_some, Option.getD_none, ofBytes_length, ofBytes_get, ofBytes_take, ofBytes_drop, Int.toNat_natCast, Int.natCast_nonneg, and_self, true_and, and_true, List.getElem?_cons_zero, List.getElem?_cons_succ, decide_true, decide_false, Bool.not_true, Bool.not_false, List.getElem_toArray, List.getElem?_toArray, List.getElem_cons_succ, List.getElem_cons_zero, List.toList_toArray, List.map_cons, List.map_nil, List.take_succ_cons, List.take_zero, List.drop_succ_cons, List.drop_zero, List.length_cons, List.length_nil, List.nil_append, List.cons_append, List.append_nil, Nat.le_refl, Nat.zero_add, Nat.mul_one, Nat.add_zero, Nat.zero_lt_one, List.length_singleton, IntKind.bits, reduceCtorEq, not_true_eq_false, not_false_eq_true, ne_eq, if_pos, if_neg, wI64, wI32, wU8, wU16, wU32, wU64, Int.emod_eq_of_lt, Int.fdiv_eq_ediv_of_nonneg, Int.tdiv_eq_ediv_of_nonneg, Int.tmod_eq_emod_of_nonneg, hdel, tyE, tyX, cvE, bdE, ↓exd, ex]); first | done | with_reducible rfl) (hc : FnS C k as st v st') (h : EvOps C ops rest ⟨tset t d v, dd⟩ st' Q) :
    EvOps C ops ({ dst := some d, op := .call { callee := .value g, args := args, argTypes := ats }, type := type, pos := pos, after := after, guard := none } :: rest) ⟨t, dd⟩ st Q := sC hg ha hc h
end
section
variable {ol : List Oper} {j : Nat} {want : Bool} {dj : Tmp} {dst : Option Tmp} {p : Prop} [Decidable p]
theorem stA {vs : List V} (hj : (ol[j]?).bind (·.dst) = some dj := by rfl) (hb : tget t dj = .tup vs := by simp only [↓evP, ↓tgP, ↓reduceIte, Nat.reduceEqDiff, reduceCtorEq, List.map_cons, List.map_nil, List.nil_append, List.append_nil, List.toList_toArray, Int.reduceLE, Int.reduceLT, Int.reduceEq, Int.reduceNe, Int.reduceGT, Int.reduceGE, decide_true, decide_false, ex]; with_reducible rfl) (h : EvOps C ol.toArray rest ⟨tset t d (.tup []), dd⟩ st Q) :
    EvOps C ol.toArray ({ dst := some d, op := op, type := type, pos := pos, after := after, guard := some (j, want) } :: rest) ⟨t, dd⟩ st Q := sS (wT hj hb) h
theorem srA (hj : (ol[j]?).bind (·.dst) = some dj := by rfl) (hb : tget t dj = .bool want := by (simp (disch := (assumption)) only [↓evP, ↓tgP, ↓reduceIte, Nat.reduceEqDiff, reduceCtorEq, decide_true, decide_false, notD, Bool.not_true, Bool.not_false, decide_eq_true, decide_eq_false, Int.reduceLE, Int.reduceLT, Int.reduceEq, Int.reduceNe, Int.reduceGT, Int.reduceGE, ex]); first | done | with_reducible rfl | (simp only [*, Bool.not_true, Bool.not_false]; first | done | fail)) (h : EvOps C ol.toArray ({ dst := dst, op := op, type := type, pos := pos, after := after, guard := none } :: rest) ⟨t, dd⟩ st Q) :
    EvOps C ol.toArray ({ dst := dst, op := op, type := type, pos := pos, after := after, guard := some (j, want) } :: rest) ⟨t, dd⟩ st Q := sR hj hb h
theorem swA {b : Bool} (hj : (ol[j]?).bind (·.dst) = some dj := by rfl) (hb : tget t dj = .bool b := by simp (disch := (assumption)) only [↓evP, ↓tgP, ↓reduceIte, Nat.reduceEqDiff, reduceCtorEq, decide_true, decide_false, notD, Bool.not_true, Bool.not_false, decide_eq_true, decide_eq_false, Int.reduceLE, Int.reduceLT, Int.reduceEq, Int.reduceNe, Int.reduceGT, Int.reduceGE, ex]; with_reducible rfl) (hr : (b == want) = false := by rfl) (h : EvOps C ol.toArray rest ⟨tset t d (.tup []), dd⟩ st Q) :
    EvOps C ol.toArray ({ dst := some d, op := op, type := type, pos := pos, after := after, guard := some (j, want) } :: rest) ⟨t, dd⟩ st Q := sS (wG hj hb hr) h
theorem s1A (hj : (ol[j]?).bind (·.dst) = some dj := by rfl) (hb : tget t dj = .bool true := by (simp only [↓evP, ↓tgP, ↓reduceIte, Nat.reduceEqDiff, reduceCtorEq, List.map_cons, List.map_nil, List.nil_append, List.append_nil, List.toList_toArray, Int.reduceLE, Int.reduceLT, Int.reduceEq, Int.reduceNe, Int.reduceGT, Int.reduceGE, decide_true, decide_false, ex]); first | done | (simp only [*, Bool.not_true, Bool.not_false]; first | done | fail)) (hr : (true == want) = false := by rfl) (h : EvOps C ol.toArray rest ⟨tset t d (.tup []), dd⟩ st Q) :
    EvOps C ol.toArray ({ dst := some d, op := op, type := type, pos := pos, after := after, guard := some (j, want) } :: rest) ⟨t, dd⟩ st Q := sS (wG hj hb hr) h
theorem s0A (hj : (ol[j]?).bind (·.dst) = some dj := by rfl) (hb : tget t dj = .bool false := by (simp only [↓evP, ↓tgP, ↓reduceIte, Nat.reduceEqDiff, reduceCtorEq, List.map_cons, List.map_nil, List.nil_append, List.append_nil, List.toList_toArray, Int.reduceLE, Int.reduceLT, Int.reduceEq, Int.reduceNe, Int.reduceGT, Int.reduceGE, decide_true, decide_false, ex]); first | done | (simp only [*, Bool.not_true, Bool.not_false]; first | done | fail)) (hr : (false == want) = false := by rfl) (h : EvOps C ol.toArray rest ⟨tset t d (.tup []), dd⟩ st Q) :
    EvOps C ol.toArray ({ dst := some d, op := op, type := type, pos := pos, after := after, guard := some (j, want) } :: rest) ⟨t, dd⟩ st Q := sS (wG hj hb hr) h
theorem sgA (hj : (ol[j]?).bind (·.dst) = some dj := by rfl) (hb : tget t dj = .bool (decide p) := by simp only [↓evP, ↓tgP, ↓reduceIte, Nat.reduceEqDiff, reduceCtorEq, List.map_cons, List.map_nil, List.nil_append, List.append_nil, List.toList_toArray, Int.reduceLE, Int.reduceLT, Int.reduceEq, Int.reduceNe, Int.reduceGT, Int.reduceGE, decide_true, decide_false, ex]; with_reducible rfl) (h1 : p → EvOps C ol.toArray ({ dst := dst, op := op, type := type, pos := pos, after := after, guard := some (j, want) } :: rest) ⟨t, dd⟩ st Q) (h0 : ¬ p → EvOps C ol.toArray ({ dst := dst, op := op, type := type, pos := pos, after := after, guard := some (j, want) } :: rest) ⟨t, dd⟩ st Q) :
    EvOps C ol.toArray ({ dst := dst, op := op, type := type, pos := pos, after := after, guard := some (j, want) } :: rest) ⟨t, dd⟩ st Q := sG hj hb h1 h0
theorem sbA {q : Bool} (hj : (ol[j]?).bind (·.dst) = some dj := by rfl) (hb : tget t dj = .bool q := by simp only [↓evP, ↓tgP, ↓reduceIte, Nat.reduceEqDiff, reduceCtorEq, List.map_cons, List.map_nil, List.nil_append, List.append_nil, List.toList_toArray, Int.reduceLE, Int.reduceLT, Int.reduceEq, Int.reduceNe, Int.reduceGT, Int.reduceGE, decide_true, decide_false, ex]; with_reducible rfl) (h1 : q = true → EvOps C ol.toArray ({ dst := dst, op := op, type := type, pos := pos, after := after, guard := some (j, want) } :: rest) ⟨t, dd⟩ st Q) (h0 : q = false → EvOps C ol.toArray ({ dst := dst, op := op, type := type, pos := pos, after := after, guard := some (j, want) } :: rest) ⟨t, dd⟩ st Q) :
    EvOps C ol.toArray ({ dst := dst, op := op, type := type, pos := pos, after := after, guard := some (j, want) } :: rest) ⟨t, dd⟩ st Q := sGB hj hb h1 h0
end
section
variable {ol : List Oper} {done rest' l : List Nat} {i : Nat} {g : Operand} {args : Array Operand} {ats : Array TypeId} {k : FuncId} {fi ca as : List V}
theorem dqA (ho : ol[i]? = some { dst := some d, op := op, type := type, pos := pos, after := after, guard := none } := by rfl) (hh : hoistAt ol.toArray i = true := by decide +kernel) (hq : quietOp C ⟨t, dd⟩ st op = some (v, st') := by simp (disch := (first | assumption | omega)) only [↓opE, ↓evP, stE, binE, ldE, ↓tgP, ↓reduceIte, clE, ncE, szE, hgE, intBin, shiftBin, strBin, unV, indexAddrV, indexV, lenV, partV, isAggT, sliceV, boundsV, bndV, asIntV, fieldAddrV, fieldV, putAt, nilCheckV, stripAgg, stripCell, decide_eq_true_eq, beqD, bneD, notD, beqS, if_true, if_false, ite_true, ite_false, Bool.true_eq_false, Bool.false_eq_true, Nat.reduceEqDiff, Nat.reduceBEq, Nat.reduceAdd, Nat.reduceSub, Nat.reduceMul, Nat.min_def, Nat.reducePow, Nat.reduceLeDiff, Nat.reduceLT, Int.reduceEq, Int.reduceNe, Int.reduceLT, Int.reduceLE, Int.reduceToNat, Int.reduceAdd, Int.reduceSub, Int.reduceMul, Int.reducePow, Int.reduceNeg, Option.map_some, Option.map_none, Option.bind_some, Option.getD_some, Option.getD_none, ofBytes_length, ofBytes_get, ofBytes_take, ofBytes_drop, Int.toNat_natCast, Int.natCast_nonneg, and_self, true_and, and_true, List.getElem?_cons_zero, List.getElem?_cons_succ, decide_true, decide_false, Bool.not_true, Bool.not_false, List.getElem_toArray, List.getElem?_toArray, List.getElem_cons_succ, List.getElem_cons_zero, List.toList_toArray, List.map_cons, List.map_nil, List.take_succ_cons, List.take_zero, List.drop_succ_cons, List.drop_zero, List.length_cons, List.length_nil, List.nil_append, List.cons_append, List.append_nil, Nat.le_refl, Nat.zero_add, Nat.mul_one, Nat.add_zero, Nat.zero_lt_one, List.length_singleton, IntKind.bits, reduceCtorEq, not_true_eq_false, not_false_eq_true, ne_eq, if_pos, if_neg, wI64, wI32, wU8, wU16, wU32, wU64, Int.emod_eq_of_lt, Int.fdiv_eq_ediv_of_nonneg, Int.tdiv_eq_ediv_of_nonneg, Int.tmod_eq_emod_of_nonneg, hdel, tyE, tyX, cvE, bdE, ↓exd, ex]; with_reducible rfl) (h : EvPlan C ol.toArray (i :: done) rest' ⟨tset t d v, dd⟩ st' Q) : EvPlan C ol.toArray done (i :: rest') ⟨t, dd⟩ st Q := dQ ho hh wN hq h
theorem dcA (ho : ol[i]? = some { dst := some d, op := .call { callee := .value g, args := args, argTypes := ats }, type := type, pos := pos, after := after, guard := none } := by rfl) (hh : hoistAt ol.toArray i = false := by decide +kernel) (hg : evalO C ⟨t, dd⟩ g = .func (.func k) fi ca := by simp only [↓evP, ↓tgP, ↓reduceIte, Nat.reduceEqDiff, reduceCtorEq, List.map_cons, List.map_nil, List.nil_append, List.append_nil, List.toList_toArray, Int.reduceLE, Int.reduceLT, Int.reduceEq, Int.reduceNe, Int.reduceGT, Int.reduceGE, decide_true, decide_false, ex]; with_reducible rfl) (ha : fi ++ args.toList.map (evalO C ⟨t, dd⟩) ++ ca = as := by (simp (disch := (first | assumption | omega)) only [↓opE, ↓evP, stE, binE, ldE, ↓tgP, ↓reduceIte, clE, ncE, szE, hgE, intBin, shiftBin, strBin, unV, indexAddrV, indexV, lenV, partV, isAggT, sliceV, boundsV, bndV, asIntV, fieldAddrV, fieldV, putAt, nilCheckV, stripAgg, stripCell, decide_eq_true_eq, beqD, bneD, notD, beqS, if_true, if_false, ite_true, ite_false, Bool.true_eq_false, Bool.false_eq_true, Nat.reduceEqDiff, Nat.reduceBEq, Nat.reduceAdd, Nat.reduceSub, Nat.reduceMul, Nat.min_def, Nat.reducePow, Nat.reduceLeDiff, Nat.reduceLT, Int.reduceEq, Int.reduceNe, Int.reduceLT, Int.reduceLE, Int.reduceToNat, Int.reduceAdd, Int.reduceSub, Int.reduceMul, Int.reducePow, Int.reduceNeg, Option.map_some, Option.map_none, Option.bind_some, Option.getD_some, Option.getD_none, ofBytes_length, ofBytes_get, ofBytes_take, ofBytes_drop, Int.toNat_natCast, Int.natCast_nonneg, and_self, true_and, and_true, List.getElem?_cons_zero, List.getElem?_cons_succ, decide_true, decide_false, Bool.not_true, Bool.not_false, List.getElem_toArray, List.getElem?_toArray, List.getElem_cons_succ, List.getElem_cons_zero, List.toList_toArray, List.map_cons, List.map_nil, List.take_succ_cons, List.take_zero, List.drop_succ_cons, List.drop_zero, List.length_cons, List.length_nil, List.nil_append, List.cons_append, List.append_nil, Nat.le_refl, Nat.zero_add, Nat.mul_one, Nat.add_zero, Nat.zero_lt_one, List.length_singleton, IntKind.bits, reduceCtorEq, not_true_eq_false, not_false_eq_true, ne_eq, if_pos, if_neg, wI64, wI32, wU8, wU16, wU32, wU64, Int.emod_eq_of_lt, Int.fdiv_eq_ediv_of_nonneg, Int.tdiv_eq_ediv_of_nonneg, Int.tmod_eq_emod_of_nonneg, hdel, tyE, tyX, cvE, bdE, ↓exd, ex]); first | done | with_reducible rfl) (hc : FnS C k as st v st') (hl : again ol.toArray done i = l := by decide +kernel) (hs : l.all (stillOk C ⟨tset t d v, dd⟩ st' ol.toArray) = true := by repeat (first | simp only [List.all_nil] | refine allC (stillL (by rfl) (by first | with_reducible exact wN | exact wG (by rfl) (by simp (disch := (assumption)) only [↓evP, ↓tgP, ↓reduceIte, Nat.reduceEqDiff, reduceCtorEq, decide_true, decide_false, notD, Bool.not_true, Bool.not_false, decide_eq_true, decide_eq_false, Int.reduceLE, Int.reduceLT, Int.reduceEq, Int.reduceNe, Int.reduceGT, Int.reduceGE, ex]; with_reducible rfl) (by rfl)) rfl (by simp (disch := (first | assumption | omega)) only [↓opE, ↓evP, stE, binE, ldE, ↓tgP, ↓reduceIte, clE, ncE, szE, hgE, intBin, shiftBin, strBin, unV, indexAddrV, indexV, lenV, partV, isAggT, sliceV, boundsV, bndV, asIntV, fieldAddrV, fieldV, putAt, nilCheckV, stripAgg, stripCell, decide_eq_true_eq, beqD, bneD, notD, beqS, if_true, if_false, ite_true, ite_false, Bool.true_eq_false, Bool.false_eq_true, Nat.reduceEqDiff, Nat.reduceBEq, Nat.reduceAdd, Nat.reduceSub, Nat.reduceMul, Nat.min_def, Nat.reducePow, Nat.reduceLeDiff, Nat.reduceLT, Int.reduceEq, Int.reduceNe, Int.reduceLT, Int.reduceLE, Int.reduceToNat, Int.reduceAdd, Int.reduceSub, Int.reduceMul, Int.reducePow, Int.reduceNeg, Option.map_some, Option.map_none, Option.bind_some, Option.getD_some, Option.getD_none, ofBytes_length, ofBytes_get, ofBytes_take, ofBytes_drop, Int.toNat_natCast, Int.natCast_nonneg, and_self, true_and, and_true, List.getElem?_cons_zero, List.getElem?_cons_succ, decide_true, decide_false, Bool.not_true, Bool.not_false, List.getElem_toArray, List.getElem?_toArray, List.getElem_cons_succ, List.getElem_cons_zero, List.toList_toArray, List.map_cons, List.map_nil, List.take_succ_cons, List.take_zero, List.drop_succ_cons, List.drop_zero, List.length_cons, List.length_nil, List.nil_append, List.cons_append, List.append_nil, Nat.le_refl, Nat.zero_add, Nat.mul_one, Nat.add_zero, Nat.zero_lt_one, List.length_singleton, IntKind.bits, reduceCtorEq, not_true_eq_false, not_false_eq_true, ne_eq, if_pos, if_neg, wI64, wI32, wU8, wU16, wU32, wU64, Int.emod_eq_of_lt, Int.fdiv_eq_ediv_of_nonneg, Int.tdiv_eq_ediv_of_nonneg, Int.tmod_eq_emod_of_nonneg, rdE, hdel, tyE, tyX, cvE, bdE, ↓exd, ex]; with_reducible rfl) (by simp only [↓evP, ↓tgP, ↓reduceIte, Nat.reduceEqDiff, reduceCtorEq, List.map_cons, List.map_nil, List.nil_append, List.append_nil, List.toList_toArray, Int.reduceLE, Int.reduceLT, Int.reduceEq, Int.reduceNe, Int.reduceGT, Int.reduceGE, decide_true, decide_false, ex])) ?_)) (h : EvPlan C ol.toArray (i :: done) rest' ⟨tset t d v, dd⟩ st' Q) : EvPlan C ol.toArray done (i :: rest') ⟨t, dd⟩ st Q := dC ho hh wN hg ha hc hl hs h
theorem dwA (ho : ol[i]? = some { dst := some d, op := op, type := type, pos := pos, after := after, guard := none } := by rfl) (hh : hoistAt ol.toArray i = false := by decide +kernel) (hp : plainWr op = true := by rfl) (hq : wrOp C (callF C 0) (evalO C ⟨t, dd⟩) st op = some (v, st') := by simp (disch := (first | assumption | omega)) only [↓opE, ↓evP, stE, binE, ldE, ↓tgP, ↓reduceIte, clE, ncE, szE, hgE, intBin, shiftBin, strBin, unV, indexAddrV, indexV, lenV, partV, isAggT, sliceV, boundsV, bndV, asIntV, fieldAddrV, fieldV, putAt, nilCheckV, stripAgg, stripCell, decide_eq_true_eq, beqD, bneD, notD, beqS, if_true, if_false, ite_true, ite_false, Bool.true_eq_false, Bool.false_eq_true, Nat.reduceEqDiff, Nat.reduceBEq, Nat.reduceAdd, Nat.reduceSub, Nat.reduceMul, Nat.min_def, Nat.reducePow, Nat.reduceLeDiff, Nat.reduceLT, Int.reduceEq, Int.reduceNe, Int.reduceLT, Int.reduceLE, Int.reduceToNat, Int.reduceAdd, Int.reduceSub, Int.reduceMul, Int.reducePow, Int.reduceNeg, Option.map_some, Option.map_none, Option.bind_some, Option.getD_some, Option.getD_none, ofBytes_length, ofBytes_get, ofBytes_take, ofBytes_drop, Int.toNat_natCast, Int.natCast_nonneg, and_self, true_and, and_true, List.getElem?_cons_zero, List.getElem?_cons_succ, decide_true, decide_false, Bool.not_true, Bool.not_false, List.getElem_toArray, List.getElem?_toArray, List.getElem_cons_succ, List.getElem_cons_zero, List.toList_toArray, List.map_cons, List.map_nil, List.take_succ_cons, List.take_zero, List.drop_succ_cons, List.drop_zero, List.length_cons, List.length_nil, List.nil_append, List.cons_append, List.append_nil, Nat.le_refl, Nat.zero_add, Nat.mul_one, Nat.add_zero, Nat.zero_lt_one, List.length_singleton, IntKind.bits, reduceCtorEq, not_true_eq_false, not_false_eq_true, ne_eq, if_pos, if_neg, wI64, wI32, wU8, wU16, wU32, wU64, Int.emod_eq_of_lt, Int.fdiv_eq_ediv_of_nonneg, Int.tdiv_eq_ediv_of_nonneg, Int.tmod_eq_emod_of_nonneg, wrOp, hdel, tyE, tyX, cvE, bdE, ↓exd, ex]; with_reducible rfl) (hl : again ol.toArray done i = l := by decide +kernel) (hs : l.all (stillOk C ⟨tset t d v, dd⟩ st' ol.toArray) = true := by repeat (first | simp only [List.all_nil] | refine allC (stillL (by rfl) (by first | with_reducible exact wN | exact wG (by rfl) (by simp (disch := (assumption)) only [↓evP, ↓tgP, ↓reduceIte, Nat.reduceEqDiff, reduceCtorEq, decide_true, decide_false, notD, Bool.not_true, Bool.not_false, decide_eq_true, decide_eq_false, Int.reduceLE, Int.reduceLT, Int.reduceEq, Int.reduceNe, Int.reduceGT, Int.reduceGE, ex]; with_reducible rfl) (by rfl)) rfl (by simp (disch := (first | assumption | omega)) only [↓opE, ↓evP, stE, binE, ldE, ↓tgP, ↓reduceIte, clE, ncE, szE, hgE, intBin, shiftBin, strBin, unV, indexAddrV, indexV, lenV, partV, isAggT, sliceV, boundsV, bndV, asIntV, fieldAddrV, fieldV, putAt, nilCheckV, stripAgg, stripCell, decide_eq_true_eq, beqD, bneD, notD, beqS, if_true, if_false, ite_true, ite_false, Bool.true_eq_false, Bool.false_eq_true, Nat.reduceEqDiff, Nat.reduceBEq, Nat.reduceAdd, Nat.reduceSub, Nat.reduceMul, Nat.min_def, Nat.reducePow, Nat.reduceLeDiff, Nat.reduceLT, Int.reduceEq, Int.reduceNe, Int.reduceLT, Int.reduceLE, Int.reduceToNat, Int.reduceAdd, Int.reduceSub, Int.reduceMul, Int.reducePow, Int.reduceNeg, Option.map_some, Option.map_none, Option.bind_some, Option.getD_some, Option.getD_none, ofBytes_length, ofBytes_get, ofBytes_take, ofBytes_drop, Int.toNat_natCast, Int.natCast_nonneg, and_self, true_and, and_true, List.getElem?_cons_zero, List.getElem?_cons_succ, decide_true, decide_false, Bool.not_true, Bool.not_false, List.getElem_toArray, List.getElem?_toArray, List.getElem_cons_succ, List.getElem_cons_zero, List.toList_toArray, List.map_cons, List.map_nil, List.take_succ_cons, List.take_zero, List.drop_succ_cons, List.drop_zero, List.length_cons, List.length_nil, List.nil_append, List.cons_append, List.append_nil, Nat.le_refl, Nat.zero_add, Nat.mul_one, Nat.add_zero, Nat.zero_lt_one, List.length_singleton, IntKind.bits, reduceCtorEq, not_true_eq_false, not_false_eq_true, ne_eq, if_pos, if_neg, wI64, wI32, wU8, wU16, wU32, wU64, Int.emod_eq_of_lt, Int.fdiv_eq_ediv_of_nonneg, Int.tdiv_eq_ediv_of_nonneg, Int.tmod_eq_emod_of_nonneg, rdE, hdel, tyE, tyX, cvE, bdE, ↓exd, ex]; with_reducible rfl) (by simp only [↓evP, ↓tgP, ↓reduceIte, Nat.reduceEqDiff, reduceCtorEq, List.map_cons, List.map_nil, List.nil_append, List.append_nil, List.toList_toArray, Int.reduceLE, Int.reduceLT, Int.reduceEq, Int.reduceNe, Int.reduceGT, Int.reduceGE, decide_true, decide_false, ex])) ?_)) (h : EvPlan C ol.toArray (i :: done) rest' ⟨tset t d v, dd⟩ st' Q) : EvPlan C ol.toArray done (i :: rest') ⟨t, dd⟩ st Q := dW ho hh hp wN hq hl hs h
theorem dnA (ho : ol[i]? = some { dst := none, op := op, type := type, pos := pos, after := after, guard := none } := by rfl) (hh : hoistAt ol.toArray i = false := by decide +kernel) (hp : plainWr op = true := by rfl) (hq : wrOp C (callF C 0) (evalO C ⟨t, dd⟩) st op = some (v, st') := by simp (disch := (first | assumption | omega)) only [↓opE, ↓evP, stE, binE, ldE, ↓tgP, ↓reduceIte, clE, ncE, szE, hgE, intBin, shiftBin, strBin, unV, indexAddrV, indexV, lenV, partV, isAggT, sliceV, boundsV, bndV, asIntV, fieldAddrV, fieldV, putAt, nilCheckV, stripAgg, stripCell, decide_eq_true_eq, beqD, bneD, notD, beqS, if_true, if_false, ite_true, ite_false, Bool.true_eq_false, Bool.false_eq_true, Nat.reduceEqDiff, Nat.reduceBEq, Nat.reduceAdd, Nat.reduceSub, Nat.reduceMul, Nat.min_def, Nat.reducePow, Nat.reduceLeDiff, Nat.reduceLT, Int.reduceEq, Int.reduceNe, Int.reduceLT, Int.reduceLE, Int.reduceToNat, Int.reduceAdd, Int.reduceSub, Int.reduceMul, Int.reducePow, Int.reduceNeg, Option.map_some, Option.map_none, Option.bind_some, Option.getD_some, Option.getD_none, ofBytes_length, ofBytes_get, ofBytes_take, ofBytes_drop, Int.toNat_natCast, Int.natCast_nonneg, and_self, true_and, and_true, List.getElem?_cons_zero, List.getElem?_cons_succ, decide_true, decide_false, Bool.not_true, Bool.not_false, List.getElem_toArray, List.getElem?_toArray, List.getElem_cons_succ, List.getElem_cons_zero, List.toList_toArray, List.map_cons, List.map_nil, List.take_succ_cons, List.take_zero, List.drop_succ_cons, List.drop_zero, List.length_cons, List.length_nil, List.nil_append, List.cons_append, List.append_nil, Nat.le_refl, Nat.zero_add, Nat.mul_one, Nat.add_zero, Nat.zero_lt_one, List.length_singleton, IntKind.bits, reduceCtorEq, not_true_eq_false, not_false_eq_true, ne_eq, if_pos, if_neg, wI64, wI32, wU8, wU16, wU32, wU64, Int.emod_eq_of_lt, Int.fdiv_eq_ediv_of_nonneg, Int.tdiv_eq_ediv_of_nonneg, Int.tmod_eq_emod_of_nonneg, wrOp, storeH, hset, hdel, tyE, tyX, cvE, bdE, ↓exd, ex]; with_reducible rfl) (hl : again ol.toArray done i = l := by decide +kernel) (hs : l.all (stillOk C ⟨t, dd⟩ st' ol.toArray) = true := by repeat (first | simp only [List.all_nil] | refine allC (stillL (by rfl) (by first | with_reducible exact wN | exact wG (by rfl) (by simp (disch := (assumption)) only [↓evP, ↓tgP, ↓reduceIte, Nat.reduceEqDiff, reduceCtorEq, decide_true, decide_false, notD, Bool.not_true, Bool.not_false, decide_eq_true, decide_eq_false, Int.reduceLE, Int.reduceLT, Int.reduceEq, Int.reduceNe, Int.reduceGT, Int.reduceGE, ex]; with_reducible rfl) (by rfl)) rfl (by simp (disch := (first | assumption | omega)) only [↓opE, ↓evP, stE, binE, ldE, ↓tgP, ↓reduceIte, clE, ncE, szE, hgE, intBin, shiftBin, strBin, unV, indexAddrV, indexV, lenV, partV, isAggT, sliceV, boundsV, bndV, asIntV, fieldAddrV, fieldV, putAt, nilCheckV, stripAgg, stripCell, decide_eq_true_eq, beqD, bneD, notD, beqS, if_true, if_false, ite_true, ite_false, Bool.true_eq_false, Bool.false_eq_true, Nat.reduceEqDiff, Nat.reduceBEq, Nat.reduceAdd, Nat.reduceSub, Nat.reduceMul, Nat.min_def, Nat.reducePow, Nat.reduceLeDiff, Nat.reduceLT, Int.reduceEq, Int.reduceNe, Int.reduceLT, Int.reduceLE, Int.reduceToNat, Int.reduceAdd, Int.reduceSub, Int.reduceMul, Int.reducePow, Int.reduceNeg, Option.map_some, Option.map_none, Option.bind_some, Option.getD_some, Option.getD_none, ofBytes_length, ofBytes_get, ofBytes_take, ofBytes_drop, Int.toNat_natCast, Int.natCast_nonneg, and_self, true_and, and_true, List.getElem?_cons_zero, List.getElem?_cons_succ, decide_true, decide_false, Bool.not_true, Bool.not_false, List.getElem_toArray, List.getElem?_toArray, List.getElem_cons_succ, List.getElem_cons_zero, List.toList_toArray, List.map_cons, List.map_nil, List.take_succ_cons, List.take_zero, List.drop_succ_cons, List.drop_zero, List.length_cons, List.length_nil, List.nil_append, List.cons_append, List.append_nil, Nat.le_refl, Nat.zero_add, Nat.mul_one, Nat.add_zero, Nat.zero_lt_one, List.length_singleton, IntKind.bits, reduceCtorEq, not_true_eq_false, not_false_eq_true, ne_eq, if_pos, if_neg, wI64, wI32, wU8, wU16, wU32, wU64, Int.emod_eq_of_lt, Int.fdiv_eq_ediv_of_nonneg, Int.tdiv_eq_ediv_of_nonneg, Int.tmod_eq_emod_of_nonneg, rdE, hdel, tyE, tyX, cvE, bdE, ↓exd, ex]; with_reducible rfl) (by simp only [↓evP, ↓tgP, ↓reduceIte, Nat.reduceEqDiff, reduceCtorEq, List.map_cons, List.map_nil, List.nil_append, List.append_nil, List.toList_toArray, Int.reduceLE, Int.reduceLT, Int.reduceEq, Int.reduceNe, Int.reduceGT, Int.reduceGE, decide_true, decide_false, ex])) ?_)) (h : EvPlan C ol.toArray (i :: done) rest' ⟨t, dd⟩ st' Q) : EvPlan C ol.toArray done (i :: rest') ⟨t, dd⟩ st Q := dWn ho hh hp wN hq hl hs h
theorem dqAG {j : Nat} {want b : Bool} {dj : Tmp} (ho : ol[i]? = some { dst := some d, op := op, type := type, pos := pos, after := after, guard := some (j, want) } := by rfl) (hj : (ol[j]?).bind (·.dst) = some dj := by rfl) (hb : tget t dj = .bool b := by simp (disch := (assumption)) only [↓evP, ↓tgP, ↓reduceIte, Nat.reduceEqDiff, reduceCtorEq, decide_true, decide_false, notD, Bool.not_true, Bool.not_false, decide_eq_true, decide_eq_false, Int.reduceLE, Int.reduceLT, Int.reduceEq, Int.reduceNe, Int.reduceGT, Int.reduceGE, ex]; with_reducible rfl) (hr : (b == want) = true := by rfl) (hh : hoistAt ol.toArray i = true := by decide +kernel) (hq : quietOp C ⟨t, dd⟩ st op = some (v, st') := by simp (disch := (first | assumption | omega)) only [↓opE, ↓evP, stE, binE, ldE, ↓tgP, ↓reduceIte, clE, ncE, szE, hgE, intBin, shiftBin, strBin, unV, indexAddrV, indexV, lenV, partV, isAggT, sliceV, boundsV, bndV, asIntV, fieldAddrV, fieldV, putAt, nilCheckV, stripAgg, stripCell, decide_eq_true_eq, beqD, bneD, notD, beqS, if_true, if_false, ite_true, ite_false, Bool.true_eq_false, Bool.false_eq_true, Nat.reduceEqDiff, Nat.reduceBEq, Nat.reduceAdd, Nat.reduceSub, Nat.reduceMul, Nat.min_def, Nat.reducePow, Nat.reduceLeDiff, Nat.reduceLT, Int.reduceEq, Int.reduceNe, Int.reduceLT, Int.reduceLE, Int.reduceToNat, Int.reduceAdd, Int.reduceSub, Int.reduceMul, Int.reducePow, Int.reduceNeg, Option.map_some, Option.map_none, Option.bind_some, Option.getD_some, Option.getD_none, ofBytes_length, ofBytes_get, ofBytes_take, ofBytes_drop, Int.toNat_natCast, Int.natCast_nonneg, and_self, true_and, and_true, List.getElem?_cons_zero, List.getElem?_cons_succ, decide_true, decide_false, Bool.not_true, Bool.not_false, List.getElem_toArray, List.getElem?_toArray, List.getElem_cons_succ, List.getElem_cons_zero, List.toList_toArray, List.map_cons, List.map_nil, List.take_succ_cons, List.take_zero, List.drop_succ_cons, List.drop_zero, List.length_cons, List.length_nil, List.nil_append, List.cons_append, List.append_nil, Nat.le_refl, Nat.zero_add, Nat.mul_one, Nat.add_zero, Nat.zero_lt_one, List.length_singleton, IntKind.bits, reduceCtorEq, not_true_eq_false, not_false_eq_true, ne_eq, if_pos, if_neg, wI64, wI32, wU8, wU16, wU32, wU64, Int.emod_eq_of_lt, Int.fdiv_eq_ediv_of_nonneg, Int.tdiv_eq_ediv_of_nonneg, Int.tmod_eq_emod_of_nonneg, hdel, tyE, tyX, cvE, bdE, ↓exd, ex]; with_reducible rfl) (h : EvPlan C ol.toArray (i :: done) rest' ⟨tset t d v, dd⟩ st' Q) : EvPlan C ol.toArray done (i :: rest') ⟨t, dd⟩ st Q := dQ ho hh (wG hj hb hr) hq h
theorem dcAG {j : Nat} {want b : Bool} {dj : Tmp} (ho : ol[i]? = some { dst := some d, op := .call { callee := .value g, args := args, argTypes := ats }, type := type, pos := pos, after := after, guard := some (j, want) } := by rfl) (hj : (ol[j]?).bind (·.dst) = some dj := by rfl) (hb : tget t dj = .bool b := by simp (disch := (assumption)) only [↓evP, ↓tgP, ↓reduceIte, Nat.reduceEqDiff, reduceCtorEq, decide_true, decide_false, notD, Bool.not_true, Bool.not_false, decide_eq_true, decide_eq_false, Int.reduceLE, Int.reduceLT, Int.reduceEq, Int.reduceNe, Int.reduceGT, Int.reduceGE, ex]; with_reducible rfl) (hr : (b == want) = true := by rfl) (hh : hoistAt ol.toArray i = false := by decide +kernel) (hg : evalO C ⟨t, dd⟩ g = .func (.func k) fi ca := by simp only [↓evP, ↓tgP, ↓reduceIte, Nat.reduceEqDiff, reduceCtorEq, List.map_cons, List.map_nil, List.nil_append, List.append_nil, List.toList_toArray, Int.reduceLE, Int.reduceLT, Int.reduceEq, Int.reduceNe, Int.reduceGT, Int.reduceGE, decide_true, decide_false, ex]; with_reducible rfl) (ha : fi ++ args.toList.map (evalO C ⟨t, dd⟩) ++ ca = as := by (simp (disch := (first | assumption | omega)) only [↓opE, ↓evP, stE, binE, ldE, ↓tgP, ↓reduceIte, clE, ncE, szE, hgE, intBin, shiftBin, strBin, unV, indexAddrV, indexV, lenV, partV, isAggT, sliceV, boundsV, bndV, asIntV, fieldAddrV, fieldV, putAt, nilCheckV, stripAgg, stripCell, decide_eq_true_eq, beqD, bneD, notD, beqS, if_true, if_false, ite_true, ite_false, Bool.true_eq_false, Bool.false_eq_true, Nat.reduceEqDiff, Nat.reduceBEq, Nat.reduceAdd, Nat.reduceSub, Nat.reduceMul, Nat.min_def, Nat.reducePow, Nat.reduceLeDiff, Nat.reduceLT, Int.reduceEq, Int.reduceNe, Int.reduceLT, Int.reduceLE, Int.reduceToNat, Int.reduceAdd, Int.reduceSub, Int.reduceMul, Int.reducePow, Int.reduceNeg, Option.map_some, Option.map_none, Option.bind_some, Option.getD_some, Option.getD_none, ofBytes_length, ofBytes_get, ofBytes_take, ofBytes_drop, Int.toNat_natCast, Int.natCast_nonneg, and_self, true_and, and_true, List.getElem?_cons_zero, List.getElem?_cons_succ, decide_true, decide_false, Bool.not_true, Bool.not_false, List.getElem_toArray, List.getElem?_toArray, List.getElem_cons_succ, List.getElem_cons_zero, List.toList_toArray, List.map_cons, List.map_nil, List.take_succ_cons, List.take_zero, List.drop_succ_cons, List.drop_zero, List.length_cons, List.length_nil, List.nil_append, List.cons_append, List.append_nil, Nat.le_refl, Nat.zero_add, Nat.mul_one, Nat.add_zero, Nat.zero_lt_one, List.length_singleton, IntKind.bits, reduceCtorEq, not_true_eq_false, not_false_eq_true, ne_eq, if_pos, if_neg, wI64, wI32, wU8, wU16, wU32, wU64, Int.emod_eq_of_lt, Int.fdiv_eq_ediv_of_nonneg, Int.tdiv_eq_ediv_of_nonneg, Int.tmod_eq_emod_of_nonneg, hdel, tyE, tyX, cvE, bdE, ↓exd, ex]); first | done | with_reducible rfl) (hc : FnS C k as st v st') (hl : again ol.toArray done i = l := by decide +kernel) (hs : l.all (stillOk C ⟨tset t d v, dd⟩ st' ol.toArray) = true := by repeat (first | simp only [List.all_nil] | refine allC (stillL (by rfl) (by first | with_reducible exact wN | exact wG (by rfl) (by simp (disch := (assumption)) only [↓evP, ↓tgP, ↓reduceIte, Nat.reduceEqDiff, reduceCtorEq, decide_true, decide_false, notD, Bool.not_true, Bool.not_false, decide_eq_true, decide_eq_false, Int.reduceLE, Int.reduceLT, Int.reduceEq, Int.reduceNe, Int.reduceGT, Int.reduceGE, ex]; with_reducible rfl) (by rfl)) rfl (by simp (disch := (first | assumption | omega)) only [↓opE, ↓evP, stE, binE, ldE, ↓tgP, ↓reduceIte, clE, ncE, szE, hgE, intBin, shiftBin, strBin, unV, indexAddrV, indexV, lenV, partV, isAggT, sliceV, boundsV, bndV, asIntV, fieldAddrV, fieldV, putAt, nilCheckV, stripAgg, stripCell, decide_eq_true_eq, beqD, bneD, notD, beqS, if_true, if_false, ite_true, ite_false, Bool.true_eq_false, Bool.false_eq_true, Nat.reduceEqDiff, Nat.reduceBEq, Nat.reduceAdd, Nat.reduceSub, Nat.reduceMul, Nat.min_def, Nat.reducePow, Nat.reduceLeDiff, Nat.reduceLT, Int.reduceEq, Int.reduceNe, Int.reduceLT, Int.reduceLE, Int.reduceToNat, Int.reduceAdd, Int.reduceSub, Int.reduceMul, Int.reducePow, Int.reduceNeg, Option.map_some, Option.map_none, Option.bind_some, Option.getD_some, Option.getD_none, ofBytes_length, ofBytes_get, ofBytes_take, ofBytes_drop, Int.toNat_natCast, Int.natCast_nonneg, and_self, true_and, and_true, List.getElem?_cons_zero, List.getElem?_cons_succ, decide_true, decide_false, Bool.not_true, Bool.not_false, List.getElem_toArray, List.getElem?_toArray, List.getElem_cons_succ, List.getElem_cons_zero, List.toList_toArray, List.map_cons, List.map_nil, List.take_succ_cons, List.take_zero, List.drop_succ_cons, List.drop_zero, List.length_cons, List.length_nil, List.nil_append, List.cons_append, List.append_nil, Nat.le_refl, Nat.zero_add, Nat.mul_one, Nat.add_zero, Nat.zero_lt_one, List.length_singleton, IntKind.bits, reduceCtorEq, not_true_eq_false, not_false_eq_true, ne_eq, if_pos, if_neg, wI64, wI32, wU8, wU16, wU32, wU64, Int.emod_eq_of_lt, Int.fdiv_eq_ediv_of_nonneg, Int.tdiv_eq_ediv_of_nonneg, Int.tmod_eq_emod_of_nonneg, rdE, hdel, tyE, tyX, cvE, bdE, ↓exd, ex]; with_reducible rfl) (by simp only [↓evP, ↓tgP, ↓reduceIte, Nat.reduceEqDiff, reduceCtorEq, List.map_cons, List.map_nil, List.nil_append, List.append_nil, List.toList_toArray, Int.reduceLE, Int.reduceLT, Int.reduceEq, Int.reduceNe, Int.reduceGT, Int.reduceGE, decide_true, decide_false, ex])) ?_)) (h : EvPlan C ol.toArray (i :: done) rest' ⟨tset t d v, dd⟩ st' Q) : EvPlan C ol.toArray done (i :: rest') ⟨t, dd⟩ st Q := dC ho hh (wG hj hb hr) hg ha hc hl hs h
theorem dsA {j : Nat} {want b : Bool} {dj : Tmp} (ho : ol[i]? = some { dst := some d, op := op, type := type, pos := pos, after := after, guard := some (j, want) } := by rfl) (hj : (ol[j]?).bind (·.dst) = some dj := by rfl) (hb : tget t dj = .bool b := by simp (disch := (assumption)) only [↓evP, ↓tgP, ↓reduceIte, Nat.reduceEqDiff, reduceCtorEq, decide_true, decide_false, notD, Bool.not_true, Bool.not_false, decide_eq_true, decide_eq_false, Int.reduceLE, Int.reduceLT, Int.reduceEq, Int.reduceNe, Int.reduceGT, Int.reduceGE, ex]; with_reducible rfl) (hr : (b == want) = false := by rfl) (h : EvPlan C ol.toArray (i :: done) rest' ⟨tset t d (.tup []), dd⟩ st Q) : EvPlan C ol.toArray done (i :: rest') ⟨t, dd⟩ st Q := dS ho (wG hj hb hr) h
theorem dtA {j : Nat} {want : Bool} {dj : Tmp} {vs : List V} (ho : ol[i]? = some { dst := some d, op := op, type := type, pos := pos, after := after, guard := some (j, want) } := by rfl) (hj : (ol[j]?).bind (·.dst) = some dj := by rfl) (hb : tget t dj = .tup vs := by simp only [↓evP, ↓tgP, ↓reduceIte, Nat.reduceEqDiff, reduceCtorEq, List.map_cons, List.map_nil, List.nil_append, List.append_nil, List.toList_toArray, Int.reduceLE, Int.reduceLT, Int.reduceEq, Int.reduceNe, Int.reduceGT, Int.reduceGE, decide_true, decide_false, ex]; with_reducible rfl) (h : EvPlan C ol.toArray (i :: done) rest' ⟨tset t d (.tup []), dd⟩ st Q) : EvPlan C ol.toArray done (i :: rest') ⟨t, dd⟩ st Q := dS ho (wT hj hb) h
theorem dgA {j : Nat} {want : Bool} {dj : Tmp} {p : Prop} [Decidable p] (ho : ol[i]? = some { dst := some d, op := op, type := type, pos := pos, after := after, guard := some (j, want) } := by rfl) (hj : (ol[j]?).bind (·.dst) = some dj := by rfl) (hb : tget t dj = .bool (decide p) := by simp only [↓evP, ↓tgP, ↓reduceIte, Nat.reduceEqDiff, reduceCtorEq, List.map_cons, List.map_nil, List.nil_append, List.append_nil, List.toList_toArray, Int.reduceLE, Int.reduceLT, Int.reduceEq, Int.reduceNe, Int.reduceGT, Int.reduceGE, decide_true, decide_false, ex]; with_reducible rfl) (h1 : p → EvPlan C ol.toArray done (i :: rest') ⟨t, dd⟩ st Q) (h0 : ¬ p → EvPlan C ol.toArray done (i :: rest') ⟨t, dd⟩ st Q) : EvPlan C ol.toArray done (i :: rest') ⟨t, dd⟩ st Q := dG ho hj hb h1 h0
end
end
section
variable {C : Cfg} {Q : Ex → Fr → St → Prop} {t : List (Nat × V)} {d : List (V × List V)} {st : St} {a b : Code} {c : Operand}
theorem ctA (hc : evalO C ⟨t, d⟩ c = .bool true := by (simp (disch := (first | assumption | omega)) only [↓evP, ↓tgP, ↓reduceIte, Nat.reduceEqDiff, reduceCtorEq, decide_true, decide_false, notD, Bool.not_true, Bool.not_false, decide_eq_true, decide_eq_false, Int.reduceLE, Int.reduceLT, Int.reduceEq, Int.reduceNe, Int.reduceGT, Int.reduceGE, ex]); first | done | fail) (h : Ev C a ⟨t, d⟩ st Q) : Ev C (.cond c a b) ⟨t, d⟩ st Q := condT hc h
theorem cfA (hc : evalO C ⟨t, d⟩ c = .bool false := by (simp (disch := (first | assumption | omega)) only [↓evP, ↓tgP, ↓reduceIte, Nat.reduceEqDiff, reduceCtorEq, decide_true, decide_false, notD, Bool.not_true, Bool.not_false, decide_eq_true, decide_eq_false, Int.reduceLE, Int.reduceLT, Int.reduceEq, Int.reduceNe, Int.reduceGT, Int.reduceGE, ex]); first | done | fail) (h : Ev C b ⟨t, d⟩ st Q) : Ev C (.cond c a b) ⟨t, d⟩ st Q := condF hc h
theorem cdA {p : Prop} [Decidable p] (hc : evalO C ⟨t, d⟩ c = .bool (decide p) := by simp only [↓evP, ↓tgP, ↓reduceIte, Nat.reduceEqDiff, reduceCtorEq, List.map_cons, List.map_nil, List.nil_append, List.append_nil, List.toList_toArray, Int.reduceLE, Int.reduceLT, Int.reduceEq, Int.reduceNe, Int.reduceGT, Int.reduceGE, decide_true, decide_false, ex]; with_reducible rfl) (h1 : p → Ev C a ⟨t, d⟩ st Q) (h0 : ¬ p → Ev C b ⟨t, d⟩ st Q) : Ev C (.cond c a b) ⟨t, d⟩ st Q := condD hc h1 h0
theorem cbA {q : Bool} (hc : evalO C ⟨t, d⟩ c = .bool q := by simp only [↓evP, ↓tgP, ↓reduceIte, Nat.reduceEqDiff, reduceCtorEq, List.map_cons, List.map_nil, List.nil_append, List.append_nil, List.toList_toArray, Int.reduceLE, Int.reduceLT, Int.reduceEq, Int.reduceNe, Int.reduceGT, Int.reduceGE, decide_true, decide_false, ex]; with_reducible rfl) (h1 : q = true → Ev C a ⟨t, d⟩ st Q) (h0 : q = false → Ev C b ⟨t, d⟩ st Q) : Ev C (.cond c a b) ⟨t, d⟩ st Q := condB hc h1 h0
end
section
variable {C : Cfg} {fn : Func} {k : FuncId} {n0 : Nat} {t : List (Nat × V)} {st st' : St} {v : V} {vs : List V} {rl : List ResultVar}
theorem leave_plain (w : V) (hgr : C.grow k = false) (hkp : C.keep k = false) (hfr : C.frz k = false) : (leaveV C k n0 w st).1 = strip w := by
  simp only [leaveV, hgr, hkp, hfr, Bool.false_eq_true, if_false]
  have : ∀ t xs, strip w ≠ .sl (.own t) xs := by
    intro t xs
    cases w <;> simp [strip, stripAgg, stripCell]
  split
  · rename_i h; exact absurd h (this _ _)
  · rfl
theorem lfA (hrl : fn.results.toList = rl) (hr : resultsV C st.H t rl = some vs := by simp (disch := (first | assumption | omega)) only [↓opE, ↓evP, stE, binE, ldE, ↓tgP, ↓reduceIte, clE, ncE, szE, hgE, intBin, shiftBin, strBin, unV, indexAddrV, indexV, lenV, partV, isAggT, sliceV, boundsV, bndV, asIntV, fieldAddrV, fieldV, putAt, nilCheckV, stripAgg, stripCell, decide_eq_true_eq, beqD, bneD, notD, beqS, if_true, if_false, ite_true, ite_false, Bool.true_eq_false, Bool.false_eq_true, Nat.reduceEqDiff, Nat.reduceBEq, Nat.reduceAdd, Nat.reduceSub, Nat.reduceMul, Nat.min_def, Nat.reducePow, Nat.reduceLeDiff, Nat.reduceLT, Int.reduceEq, Int.reduceNe, Int.reduceLT, Int.reduceLE, Int.reduceToNat, Int.reduceAdd, Int.reduceSub, Int.reduceMul, Int.reducePow, Int.reduceNeg, Option.map_some, Option.map_none, Option.bind_some, Option.getD_some, Option.getD_none, ofBytes_length, ofBytes_get, ofBytes_take, ofBytes_drop, Int.toNat_natCast, Int.natCast_nonneg, and_self, true_and, and_true, List.getElem?_cons_zero, List.getElem?_cons_succ, decide_true, decide_false, Bool.not_true, Bool.not_false, List.getElem_toArray, List.getElem?_toArray, List.getElem_cons_succ, List.getElem_cons_zero, List.toList_toArray, List.map_cons, List.map_nil, List.take_succ_cons, List.take_zero, List.drop_succ_cons, List.drop_zero, List.length_cons, List.length_nil, List.nil_append, List.cons_append, List.append_nil, Nat.le_refl, Nat.zero_add, Nat.mul_one, Nat.add_zero, Nat.zero_lt_one, List.length_singleton, IntKind.bits, reduceCtorEq, not_true_eq_false, not_false_eq_true, ne_eq, if_pos, if_neg, wI64, wI32, wU8, wU16, wU32, wU64, Int.emod_eq_of_lt, Int.fdiv_eq_ediv_of_nonneg, Int.tdiv_eq_ediv_of_nonneg, Int.tmod_eq_emod_of_nonneg, resultsV, hdel, tyE, tyX, cvE, bdE, ↓exd, ex]; with_reducible rfl) (hgr : C.grow k = false := by rfl) (hkp : C.keep k = false := by rfl) (hfr : C.frz k = false := by rfl) (hv : strip (packV vs) = v) (hp : pureV v = true) : Lv C fn k n0 (fun v1 _ => pureV v1 = true ∧ v1 = v) .ret ⟨t, []⟩ st :=
  leafR (by rw [hrl]; exact hr) (by rw [leave_plain _ hgr hkp hfr]; exact hv) hp
theorem lsA (hrl : fn.results.toList = rl) (hr : resultsV C st.H t rl = some vs := by simp (disch := (first | assumption | omega)) only [↓opE, ↓evP, stE, binE, ldE, ↓tgP, ↓reduceIte, clE, ncE, szE, hgE, intBin, shiftBin, strBin, unV, indexAddrV, indexV, lenV, partV, isAggT, sliceV, boundsV, bndV, asIntV, fieldAddrV, fieldV, putAt, nilCheckV, stripAgg, stripCell, decide_eq_true_eq, beqD, bneD, notD, beqS, if_true, if_false, ite_true, ite_false, Bool.true_eq_false, Bool.false_eq_true, Nat.reduceEqDiff, Nat.reduceBEq, Nat.reduceAdd, Nat.reduceSub, Nat.reduceMul, Nat.min_def, Nat.reducePow, Nat.reduceLeDiff, Nat.reduceLT, Int.reduceEq, Int.reduceNe, Int.reduceLT, Int.reduceLE, Int.reduceToNat, Int.reduceAdd, Int.reduceSub, Int.reduceMul, Int.reducePow, Int.reduceNeg, Option.map_some, Option.map_none, Option.bind_some, Option.getD_some, Option.getD_none, ofBytes_length, ofBytes_get, ofBytes_take, ofBytes_drop, Int.toNat_natCast, Int.natCast_nonneg, and_self, true_and, and_true, List.getElem?_cons_zero, List.getElem?_cons_succ, decide_true, decide_false, Bool.not_true, Bool.not_false, List.getElem_toArray, List.getElem?_toArray, List.getElem_cons_succ, List.getElem_cons_zero, List.toList_toArray, List.map_cons, List.map_nil, List.take_succ_cons, List.take_zero, List.drop_succ_cons, List.drop_zero, List.length_cons, List.length_nil, List.nil_append, List.cons_append, List.append_nil, Nat.le_refl, Nat.zero_add, Nat.mul_one, Nat.add_zero, Nat.zero_lt_one, List.length_singleton, IntKind.bits, reduceCtorEq, not_true_eq_false, not_false_eq_true, ne_eq, if_pos, if_neg, wI64, wI32, wU8, wU16, wU32, wU64, Int.emod_eq_of_lt, Int.fdiv_eq_ediv_of_nonneg, Int.tdiv_eq_ediv_of_nonneg, Int.tmod_eq_emod_of_nonneg, resultsV, hdel, tyE, tyX, cvE, bdE, ↓exd, ex]; with_reducible rfl) (hv : leaveV C k n0 (packV vs) st = (v, st')) : Lv C fn k n0 (fun v1 st1 => v1 = v ∧ st1 = st') .ret ⟨t, []⟩ st :=
  leafS (by rw [hrl]; exact hr) hv
end
end Go.Vm
