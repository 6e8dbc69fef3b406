/- Functions that are known by what they answer; a law's contract. -/
import Derived.Test.YtklcmgodhpediaaGreatDoorN20
import Derived.Lib.Join
import Derived.Lib.LaidTab
set_option linter.unusedSimpArgs false
set_option linter.unusedVariables false
namespace Go.Vm
open Go Go.RowKit Go.ChangeShapes

/-- New blocks alone. -/
theorem GR.later {g : Ghost} {st : St} {w0 : W0} {base : Nat} {w w' : World} (h : GR g st w0 base w) (hb : Below w.heap.size w w') : GR g st w0 base w' :=
  ⟨h.below.trans (hb.mono h.lim0), Nat.le_trans h.lim0 hb.size, fun B o v hv => (hb.cell (p := ⟨B, o, none⟩) (h.st_lt hv)).trans (h.stab B o v hv),
    fun i ob B h1 h2 => (h.obj i ob B h1 h2).keep (Ghost.le.refl g) (hb.block B (h.obj i ob B h1 h2).lt) (fun _ x => x), h.excl, h.old, h.lim, h.sorted, h.top, h.lo⟩

/-- A call that makes new blocks alone, and answers what names none of them. -/
theorem AC_of {C : Cfg} (hC : COk C) {k : FuncId} {args : List V} {st : St} {v : V} (hf : ∃ fn, C.P.funcs[k]? = some fn ∧ fn.body.isSome = true)
    (h : ∀ (g : Ghost) (w : World) (args' : Array Value), (∀ B o u, g.st B o = some u → w.cell? ⟨B, o, none⟩ = some u) → (∀ i, VR g (C.glob i) (.pointer (some ⟨i, 0, none⟩))) → C.I w → VRl g args args'.toList →
      Calls C.P k args' w fun e w' => ∃ v', e = .returned v' ∧ VR g v v' ∧ Below w.heap.size w w') : AC C k args st v st :=
  ⟨Nat.le_refl _, hf, fun g w0 base w args' hG hgl ha => (h g w args' hG.stab hgl.vr (hC.inv _ _ (fun k hk => hG.below.block k (Nat.lt_of_lt_of_le hk hgl.lo)) hgl.inv) ha).mono fun e w' ⟨v', he, hv, hb⟩ => ⟨v', g, he, Ext.refl _ _, hv, hG.later hb⟩⟩

/-- Texts as elements. -/
theorem VRe_strs {g : Ghost} {S : Nat} : ∀ {l : List (List UInt8)} {vs : List Value}, VRe g S (l.map .str) vs → vs = l.map (fun s => .string ⟨s.toArray⟩)
  | [], vs, h => by simpa only [List.map_nil, VRe] using h
  | s :: l, vs, h => by
    rw [List.map_cons] at h
    obtain ⟨ch, vs', rfl, _, _, ⟨v, rfl, _, h3⟩, h4⟩ := VRe_cons.1 h
    simp only [VR] at h3
    rw [VRe_strs h4, h3]; rfl

theorem join_ok {C : Cfg} (hC : COk C) {k : FuncId} (hf : ∃ fn, C.P.funcs[k]? = some fn ∧ fn.body.isSome = true)
    (h0 : ∀ (a : Option Addr) (c : Nat) (sep : ByteArray) (w : World), Calls C.P k #[.slice a 0 c, .string sep] w fun e w' => e = .returned (.string ⟨#[]⟩) ∧ w' = w)
    (h1 : ∀ (bk o c : Nat) (xs : List ByteArray) (sep : ByteArray) (w : World), (∀ (j : Nat) x, xs[j]? = some x → w.cell? ⟨bk, o + j, none⟩ = some (.string x)) → bk < w.heap.size → xs.length ≤ 140737488355328 → xs.length ≤ c →
      (Lib.join (xs.map (·.data.toList)) sep.data.toList).length ≤ 140737488355328 →
      Calls C.P k #[.slice (some ⟨bk, o, none⟩) xs.length c, .string sep] w fun e w' => e = .returned (.string ⟨(Lib.join (xs.map (·.data.toList)) sep.data.toList).toArray⟩) ∧ Below w.heap.size w w')
    {tip : Tip} {l : List (List UInt8)} {sep : List UInt8} {st : St} (hl : (Lib.join l sep).length ≤ 1048576) (hn : l.length ≤ 1048576) :
    AC C k [.sl tip (l.map .str), .str sep] st (.str (Lib.join l sep)) st := by
  refine AC_of hC hf fun g w args' hst _ _ ha => ?_
  obtain ⟨v0, r0, e0, hv0, v1, r1, e1, hv1, e2⟩ := ha
  subst e2; subst e1
  obtain rfl : args' = #[v0, v1] := by cases args'; simp_all
  simp only [VR] at hv1
  obtain ⟨a, cap, vs, S, rfl, h2, _, h4, h5⟩ := hv0
  subst hv1
  cases l with
  | nil => exact (h0 a cap ⟨sep.toArray⟩ w).mono fun e w' ⟨he, hw⟩ => ⟨_, he, by simp [VR, Lib.join_nil], hw ▸ Below.refl _ _⟩
  | cons s l =>
    obtain ⟨B, o, rfl, hrow⟩ := h5 (by simp)
    have hvs := VRe_strs h2
    have hcell : ∀ (j : Nat) x, ((s :: l).map fun s => (⟨s.toArray⟩ : ByteArray))[j]? = some x → w.cell? ⟨B, o + j, none⟩ = some (.string x) := fun j x hx => by
      refine hst _ _ _ (hrow j _ ?_)
      rw [hvs]
      simp only [List.getElem?_map, Option.map_eq_some_iff] at hx ⊢
      obtain ⟨y, hy, rfl⟩ := hx
      exact ⟨y, hy, rfl⟩
    have hm : ((s :: l).map fun s => (⟨s.toArray⟩ : ByteArray)).map (·.data.toList) = s :: l := by
      rw [List.map_map]
      exact (List.map_congr_left (fun x _ => by simp)).trans (List.map_id _)
    have hB : B < w.heap.size := lt_of_cell (hcell 0 _ rfl)
    have := h1 B o cap ((s :: l).map fun s => (⟨s.toArray⟩ : ByteArray)) ⟨sep.toArray⟩ w hcell hB (by simp only [List.length_map]; omega) (by simpa using h4) (by rw [hm]; simpa using (by omega : (Lib.join (s :: l) sep).length ≤ 140737488355328))
    rw [hm] at this
    simp only [List.length_map] at this ⊢
    refine this.mono fun e w' ⟨he, hb⟩ => ⟨_, he, ?_, hb⟩
    simp [VR]

section
variable {C : Cfg} {H : Type} {enc : TypeId × Value → H}

/-- **A law's contract: what the evaluator answers at all arguments.** -/
theorem law_contract (hC : COk C) (hP : GlobPure C) (hX : XOk C) {k : FuncId} {f : Func} {s : ChangeSpec} {apart fresh handsOn again : Bool} {tb : TypeId} {T : List TypeId} {r m : Nat}
    (hT : tysOk C.P T = true) (hTs : (f.params.toList.all fun t => T.contains t) = true)
    (hl : laidOutB C.P = true) (hts : (f.params.toList.all fun t => C.P.readableRec t && decide (t < C.P.types.size)) = true) (hv : s.vars = []) (hrt : f.resultTypes = #[tb]) (htb : C.P.underlying tb = some .bool)
    (hs : ∀ ds : List (DataW H), ds.length = f.params.toList.length → s.fn H ds = { results := [.lit (.bool true)], args := ds })
    (h : ∀ avs, WfA C.P r f.params.toList avs → vbulks avs ≤ m → Fn C k avs ⟨[], 0⟩ fun v _ => v = .bool true)
    {W : World} {base : Nat} {args : Array Value} {ds gs : List (DataW H)} {before : List MemPlace}
    (hval : ∀ (j : Nat) t v, f.params[j]? = some t → args[j]? = some v → Value.okWide C.P W .any base t v)
    (hW : DataW.Whole enc C.P f.params.toList s.vars apart W args.toList ds gs before) (hw : (DataW.weightsEach C.P (f.params.toList ++ s.plain.varTypes C.P) (ds ++ gs)).all (· ≤ r) = true) (hm : dbulkAll (ds ++ gs) ≤ m) (hg : GlobR C (Ghost.of W) ⟨W, (Ghost.of W).st⟩ W.heap.size) :
    Calls C.P k args W fun e W' => ∃ v, e = .returned v ∧ s.post enc C.P f apart fresh handsOn again W args v W' := by
  have hW' := hW
  obtain ⟨p, q, hA, hV, hbe, hz, hn⟩ := hW
  have hgs : gs = [] := by
    rw [hv] at hV
    cases gs with
    | nil => rfl
    | cons _ _ => exact hV.elim
  subst hgs
  obtain ⟨hlen, hlen2⟩ := trodAll_length hA
  rw [List.append_nil] at hw hm
  have hw' : ∀ n ∈ DataW.weightsEach C.P f.params.toList ds, n ≤ r := by
    intro n hn
    have key : ∀ (ts us : List TypeId) (ds : List (DataW H)), n ∈ DataW.weightsEach C.P ts ds → n ∈ DataW.weightsEach C.P (ts ++ us) ds := by
      intro ts us
      induction ts with
      | nil => intro ds h; cases ds <;> simp [DataW.weightsEach] at h
      | cons t ts ih =>
        intro ds h
        cases ds with
        | nil => simp [DataW.weightsEach] at h
        | cons d ds =>
          simp only [List.cons_append, DataW.weightsEach, List.mem_append] at h ⊢
          exact h.imp id (ih ds)
    simpa using List.all_eq_true.1 hw n (key _ _ _ hn)
  obtain ⟨avs, h1, h2, h3⟩ := trodAll_Wf (b0 := base) hT hTs (fun j t v a b => hval j t v (by simpa using a) (by simpa using b)) hA hw'
  refine (law_calls hC hP hX hg h2 (h avs h1 (Nat.le_trans h3 hm))).mono fun e W' ⟨he, hB⟩ => ⟨_, he, ?_⟩
  exact post_true hl hts hv hrt htb hW' (hs ds hlen2) hB
end
end Go.Vm
/- Walks whose frames are known by what they hold at each place alone. -/
set_option linter.unusedSimpArgs false
set_option linter.unusedVariables false
namespace Go.Vm
open Go Go.RowKit

/-! Numbers. -/
theorem wI64 {x : Int} (h1 : -9223372036854775808 ≤ x) (h2 : x ≤ 9223372036854775807) : IntKind.i64.wrap x = x := by
  simp [IntKind.wrap, IntKind.signed, IntKind.bits]; omega
theorem wI32 {x : Int} (h1 : -2147483648 ≤ x) (h2 : x ≤ 2147483647) : IntKind.i32.wrap x = x := by
  simp [IntKind.wrap, IntKind.signed, IntKind.bits]; omega
theorem wU8 (x : Int) : IntKind.u8.wrap x = x % 256 := by simp [IntKind.wrap, IntKind.signed, IntKind.bits]
theorem wU16 (x : Int) : IntKind.u16.wrap x = x % 65536 := by simp [IntKind.wrap, IntKind.signed, IntKind.bits]
theorem wU32 (x : Int) : IntKind.u32.wrap x = x % 4294967296 := by simp [IntKind.wrap, IntKind.signed, IntKind.bits]
theorem wU64 (x : Int) : IntKind.u64.wrap x = x % 18446744073709551616 := by simp [IntKind.wrap, IntKind.signed, IntKind.bits]
theorem beqD (a b : Int) : (a == b) = decide (a = b) := rfl
theorem bneD (a b : Int) : (a != b) = decide (a ≠ b) := by simp [bne, beqD]
theorem notD {p : Prop} [Decidable p] : (!decide p) = decide (¬ p) := by simp
theorem beqS (a b : List UInt8) : (a == b) = decide (a = b) := by
  by_cases h : a = b
  · subst h; simp
  · simp [h]

section
variable {C : Cfg}

theorem tgP (l : List (Nat × V)) (d t : Nat) (v : V) : tget (tset l d v) t = if t = d then v else tget l t := tget_tset l d t v

theorem tget_init : ∀ (l : List V) (k i : Nat) (v : V), l[i]? = some v → tget (initT k l) (k + i) = v
  | [], k, i, v, h => by simp at h
  | x :: l, k, 0, v, h => by simp at h; subst h; simp [initT, tget]
  | x :: l, k, i + 1, v, h => by
    simp only [initT, tget]
    have : (k == k + (i + 1)) = false := by simp
    rw [this]
    have := tget_init l (k + 1) i v (by simpa using h)
    rw [show k + 1 + i = k + (i + 1) by omega] at this
    simpa using this

theorem frame0_get {n : Nat} {args : List V} {i : Nat} {v : V} (h : args[i]? = some v) : tget (frame0 n args) i = v := by
  have := tget_init (args ++ List.replicate (n - args.length) .any) 0 i v (by
    rw [List.getElem?_append_left (List.getElem?_eq_some_iff.1 h).1]; exact h)
  simpa [frame0] using this

theorem evP {C : Cfg} :
    (∀ t d i, evalO C ⟨t, d⟩ (.tmp i) = tget t i) ∧
    (∀ f k n, evalO C f (.const (.int k n)) = .int k n) ∧ (∀ f b, evalO C f (.const (.bool b)) = .bool b) ∧ (∀ f s, evalO C f (.const (.string s)) = .str s.data.toList) ∧
    (∀ f, evalO C f (.const (.pointer none)) = .nilptr) ∧ (∀ f, evalO C f (.const (.slice none 0 0)) = .sl .full []) ∧ (∀ f, evalO C f (.const (.map none)) = .nilmap) ∧ (∀ f, evalO C f (.const .nilFunc) = .nilfunc) ∧ (∀ f, evalO C f (.const .nilIface) = .niliface) ∧
    (∀ f cs, evalO C f (.const (.agg cs)) = ofVal (.agg cs)) ∧ (∀ f k, evalO C f (.func k) = .func (.func k) [] []) ∧ (∀ f i, evalO C f (.global i) = C.glob i) :=
  ⟨fun _ _ _ => rfl, fun _ _ _ => rfl, fun _ _ => rfl, fun _ _ => rfl, fun _ => rfl, fun _ => rfl, fun _ => rfl, fun _ => rfl, fun _ => rfl, fun _ _ => rfl, fun _ _ => rfl, fun _ _ => rfl⟩

/-- A call answers v and leaves st'. -/
structure FnS (C : Cfg) (k : FuncId) (args : List V) (st : St) (v : V) (st' : St) : Prop where
  ex : Fn C k args st fun v1 st1 => v1 = v ∧ st1 = st'

section
variable {k : FuncId} {fn : Func} {c : Code} {args : List V} {st st' : St} {v : V} {Q : V → St → Prop}
theorem FnS.use (h : FnS C k args st v st') (hq : Q v st') : Fn C k args st Q := Fn.mono h.ex fun _ _ ⟨h1, h2⟩ => by subst h1; subst h2; exact hq

/-- A function with a memory of its own. -/
theorem goP (hf : C.P.funcs[k]? = some fn) (hx : C.X k args st = none) (hp : C.pure k = true) (hb : fn.body = some c) (hl : decide (args.length ≤ fn.ntmps) = true) (ha : pureVs (args.map unown) = true)
    (h : ∀ t : List (Nat × V), (∀ i v, (args.map unown)[i]? = some v → tget t i = v) → Ev C c ⟨t, []⟩ ⟨[], 0⟩ (Lv C fn k 0 fun v1 _ => pureV v1 = true ∧ v1 = v)) : FnS C k args st v st :=
  ⟨Fn.pure hf hx hp hb hl ha ((h _ fun i v hv => frame0_get hv).mono fun e f' st' hq => by
    cases e <;> try exact hq
    all_goals
      obtain ⟨h1, vs, h2, h3, h4⟩ := hq
      exact ⟨h1, vs, h2, h3, h4, rfl⟩)⟩
/-- A function in its caller's memory. -/
theorem goI (hf : C.P.funcs[k]? = some fn) (hx : C.X k args st = none) (hp : C.pure k = false) (hb : fn.body = some c) (hl : decide (args.length ≤ fn.ntmps) = true)
    (h : ∀ t : List (Nat × V), (∀ i v, args[i]? = some v → tget t i = v) → Ev C c ⟨t, []⟩ st (Lv C fn k st.n Q)) : Fn C k args st Q :=
  Fn.of hf hx hp hb hl (h _ fun i v hv => frame0_get hv)
end

section
variable {Q : Ex → Fr → St → Prop} {t : List (Nat × V)} {d : List (V × List V)} {st : St} {a b : Code} {c : Operand}
theorem condD {p : Prop} [Decidable p] (hc : evalO C ⟨t, d⟩ c = .bool (decide p)) (h1 : p → Ev C a ⟨t, d⟩ st Q) (h0 : ¬ p → Ev C b ⟨t, d⟩ st Q) : Ev C (.cond c a b) ⟨t, d⟩ st Q :=
  Ev.cond2 hc (fun h => h1 (of_decide_eq_true h)) (fun h => h0 (of_decide_eq_false h))
theorem condB {q : Bool} (hc : evalO C ⟨t, d⟩ c = .bool q) (h1 : q = true → Ev C a ⟨t, d⟩ st Q) (h0 : q = false → Ev C b ⟨t, d⟩ st Q) : Ev C (.cond c a b) ⟨t, d⟩ st Q := Ev.cond2 hc h1 h0

/-- A loop: what holds of the frame ahead of each round, and what each round lowers. -/
theorem loopT {b : Code} (Inv : Nat → List (Nat × V) → St → Prop) {n : Nat} (h0 : Inv n t st)
    (step : ∀ n t st, Inv n t st → Ev C b ⟨t, d⟩ st (Nx (fun f' st' => ∃ m, m < n ∧ f'.d = d ∧ Inv m f'.t st') Q)) : Ev C (.loop b) ⟨t, d⟩ st Q := by
  refine Ev.loop_ind (fun n f st => f.d = d ∧ Inv n f.t st) ⟨rfl, h0⟩ fun n f st h => ?_
  obtain ⟨t', d'⟩ := f
  obtain ⟨hd, hi⟩ := h
  simp only at hd hi
  subst hd
  refine (step n t' st hi).mono fun e f' st' hq => ?_
  cases e <;> exact hq
end

section
variable {ops : Array Oper} {rest : List Oper} {t : List (Nat × V)} {dd : List (V × List V)} {st st' : St} {Q : Fr → St → Prop} {v : V} {d : Tmp} {op : Op} {type : TypeId} {pos : String} {after : Array Edge}

theorem sQ (hq : quietOp C ⟨t, dd⟩ st op = some (v, st')) (h : EvOps C ops rest ⟨tset t d v, dd⟩ st' Q) :
    EvOps C ops ({ dst := some d, op := op, type := type, pos := pos, after := after, guard := none } :: rest) ⟨t, dd⟩ st Q := EvOps.quiet rfl hq h
theorem sMv {x : Operand} (hv : evalO C ⟨t, dd⟩ x = v) (h : EvOps C ops rest ⟨tset t d v, dd⟩ st Q) :
    EvOps C ops ({ dst := some d, op := .move x, type := type, pos := pos, after := after, guard := none } :: rest) ⟨t, dd⟩ st Q := sQ (by rw [← hv]; rfl) h
theorem sAs {x : Operand} (hv : evalO C ⟨t, dd⟩ x = v) (h : EvOps C ops rest ⟨tset t d v, dd⟩ st Q) :
    EvOps C ops ({ dst := some d, op := .assign x, type := type, pos := pos, after := after, guard := none } :: rest) ⟨t, dd⟩ st Q := sQ (by rw [← hv]; rfl) h
theorem sQn (hq : quietOp C ⟨t, dd⟩ st op = some (v, st')) (h : EvOps C ops rest ⟨t, dd⟩ st' Q) :
    EvOps C ops ({ dst := none, op := op, type := type, pos := pos, after := after, guard := none } :: rest) ⟨t, dd⟩ st Q := EvOps.quiet rfl hq h
theorem sW (hp : plainWr op = true) (hq : wrOp C (callF C 0) (evalO C ⟨t, dd⟩) st op = some (v, st')) (h : EvOps C ops rest ⟨tset t d v, dd⟩ st' Q) :
    EvOps C ops ({ dst := some d, op := op, type := type, pos := pos, after := after, guard := none } :: rest) ⟨t, dd⟩ st Q := EvOps.wr rfl hp hq h
theorem sWn (hp : plainWr op = true) (hq : wrOp C (callF C 0) (evalO C ⟨t, dd⟩) st op = some (v, st')) (h : EvOps C ops rest ⟨t, dd⟩ st' Q) :
    EvOps C ops ({ dst := none, op := op, type := type, pos := pos, after := after, guard := none } :: rest) ⟨t, dd⟩ st Q := EvOps.wr rfl hp hq h
theorem sC {g : Operand} {args : Array Operand} {ats : Array TypeId} {k : FuncId} {fi ca as : List V} (hg : evalO C ⟨t, dd⟩ g = .func (.func k) fi ca) (ha : fi ++ args.toList.map (evalO C ⟨t, dd⟩) ++ ca = as)
    (hc : FnS C k as st v st') (h : EvOps C ops rest ⟨tset t d v, dd⟩ st' Q) :
    EvOps C ops ({ dst := some d, op := .call { callee := .value g, args := args, argTypes := ats }, type := type, pos := pos, after := after, guard := none } :: rest) ⟨t, dd⟩ st Q :=
  EvOps.call rfl hg (by rw [ha]; exact hc.use h)
theorem sCn {g : Operand} {args : Array Operand} {ats : Array TypeId} {k : FuncId} {fi ca as : List V} (hg : evalO C ⟨t, dd⟩ g = .func (.func k) fi ca) (ha : fi ++ args.toList.map (evalO C ⟨t, dd⟩) ++ ca = as)
    (hc : FnS C k as st v st') (h : EvOps C ops rest ⟨t, dd⟩ st' Q) :
    EvOps C ops ({ dst := none, op := .call { callee := .value g, args := args, argTypes := ats }, type := type, pos := pos, after := after, guard := none } :: rest) ⟨t, dd⟩ st Q :=
  EvOps.call rfl hg (by rw [ha]; exact hc.use h)
/-- A call whose answer is known by a condition alone. -/
theorem sX {g : Operand} {args : Array Operand} {ats : Array TypeId} {k : FuncId} {fi ca as : List V} (hg : evalO C ⟨t, dd⟩ g = .func (.func k) fi ca) (ha : fi ++ args.toList.map (evalO C ⟨t, dd⟩) ++ ca = as)
    (hc : Fn C k as st fun v st' => EvOps C ops rest ⟨tset t d v, dd⟩ st' Q) :
    EvOps C ops ({ dst := some d, op := .call { callee := .value g, args := args, argTypes := ats }, type := type, pos := pos, after := after, guard := none } :: rest) ⟨t, dd⟩ st Q :=
  EvOps.call rfl hg (by rw [ha]; exact hc)


theorem toA {ol : List Oper} {i : Nat} {o : Oper} (h : ol[i]? = some o) : ol.toArray[i]? = some o := by rw [List.getElem?_toArray]; exact h

/-! Guards. -/
section
variable {ol : List Oper} {j : Nat} {want : Bool} {dj : Tmp} {dst : Option Tmp} {p : Prop} [Decidable p]
theorem wG {r b : Bool} (hj : (ol[j]?).bind (·.dst) = some dj) (hb : tget t dj = .bool b) (hr : (b == want) = r) :
    wantedV ⟨t, dd⟩ ol.toArray { dst := dst, op := op, type := type, pos := pos, after := after, guard := some (j, want) } = some r := by
  subst hr; simp only [wantedV, List.getElem?_toArray, hj, hb]
theorem wT {vs : List V} (hj : (ol[j]?).bind (·.dst) = some dj) (hb : tget t dj = .tup vs) :
    wantedV ⟨t, dd⟩ ol.toArray { dst := dst, op := op, type := type, pos := pos, after := after, guard := some (j, want) } = some false := by
  simp only [wantedV, List.getElem?_toArray, hj, hb]
theorem wN {f : Fr} {oo : Array Oper} : wantedV f oo { dst := dst, op := op, type := type, pos := pos, after := after, guard := none } = some true := rfl
theorem EvOps.unguard {g : Option (Nat × Bool)} (hw : wantedV ⟨t, dd⟩ ol.toArray { dst := dst, op := op, type := type, pos := pos, after := after, guard := g } = some true)
    (h : EvOps C ol.toArray ({ dst := dst, op := op, type := type, pos := pos, after := after, guard := none } :: rest) ⟨t, dd⟩ st Q) :
    EvOps C ol.toArray ({ dst := dst, op := op, type := type, pos := pos, after := after, guard := g } :: rest) ⟨t, dd⟩ st Q := by
  refine ⟨fun hC hP hX N w0 base g' w a hall hmem hG hgl hf hN R hR => ?_⟩
  have := h.ex hC hP hX hall (fun o ho d hd => by
    cases ho with
    | head => exact hmem _ List.mem_cons_self d hd
    | tail _ ho => exact hmem _ (List.mem_cons_of_mem _ ho) d hd) hG hgl hf hN R hR
  simp only [wpList] at this ⊢
  rw [if_pos (show Region.wanted ({ dst := dst, op := op, type := type, pos := pos, after := after, guard := none } : Oper) (yielded ol.toArray a.tmps) = true from rfl)] at this
  rw [if_pos (wantedV_sound (fun i _ => hf.t i) (fun i hi => by rw [hN]; exact opsOk_guard hall _ i hi) hw)]
  exact this
theorem sR (hj : (ol[j]?).bind (·.dst) = some dj) (hb : tget t dj = .bool want) (h : EvOps C ol.toArray ({ dst := dst, op := op, type := type, pos := pos, after := after, guard := none } :: rest) ⟨t, dd⟩ st Q) :
    EvOps C ol.toArray ({ dst := dst, op := op, type := type, pos := pos, after := after, guard := some (j, want) } :: rest) ⟨t, dd⟩ st Q := EvOps.unguard (wG hj hb (by simp)) h
theorem sS (hw : wantedV ⟨t, dd⟩ ol.toArray { dst := some d, op := op, type := type, pos := pos, after := after, guard := some (j, want) } = some false) (h : EvOps C ol.toArray rest ⟨tset t d (.tup []), dd⟩ st Q) :
    EvOps C ol.toArray ({ dst := some d, op := op, type := type, pos := pos, after := after, guard := some (j, want) } :: rest) ⟨t, dd⟩ st Q := EvOps.skip hw h
theorem sSn (hw : wantedV ⟨t, dd⟩ ol.toArray { dst := none, op := op, type := type, pos := pos, after := after, guard := some (j, want) } = some false) (h : EvOps C ol.toArray rest ⟨t, dd⟩ st Q) :
    EvOps C ol.toArray ({ dst := none, op := op, type := type, pos := pos, after := after, guard := some (j, want) } :: rest) ⟨t, dd⟩ st Q := EvOps.skip hw h
/-- A guard that is open. -/
theorem sG (hj : (ol[j]?).bind (·.dst) = some dj) (hb : tget t dj = .bool (decide p))
    (h1 : p → EvOps C ol.toArray ({ dst := dst, op := op, type := type, pos := pos, after := after, guard := some (j, want) } :: rest) ⟨t, dd⟩ st Q)
    (h0 : ¬ p → EvOps C ol.toArray ({ dst := dst, op := op, type := type, pos := pos, after := after, guard := some (j, want) } :: rest) ⟨t, dd⟩ st Q) :
    EvOps C ol.toArray ({ dst := dst, op := op, type := type, pos := pos, after := after, guard := some (j, want) } :: rest) ⟨t, dd⟩ st Q := by
  by_cases h : p
  · exact h1 h
  · exact h0 h
theorem sGB {q : Bool} (hj : (ol[j]?).bind (·.dst) = some dj) (hb : tget t dj = .bool q)
    (h1 : q = true → EvOps C ol.toArray ({ dst := dst, op := op, type := type, pos := pos, after := after, guard := some (j, want) } :: rest) ⟨t, dd⟩ st Q)
    (h0 : q = false → EvOps C ol.toArray ({ dst := dst, op := op, type := type, pos := pos, after := after, guard := some (j, want) } :: rest) ⟨t, dd⟩ st Q) :
    EvOps C ol.toArray ({ dst := dst, op := op, type := type, pos := pos, after := after, guard := some (j, want) } :: rest) ⟨t, dd⟩ st Q := by
  cases q
  · exact h0 rfl
  · exact h1 rfl
end

variable {ol : List Oper} {done rest' l : List Nat} {i : Nat} {guard : Option (Nat × Bool)}
theorem dQ (ho : ol[i]? = some { dst := some d, op := op, type := type, pos := pos, after := after, guard := guard }) (hh : hoistAt ol.toArray i = true) (hw : wantedV ⟨t, dd⟩ ol.toArray { dst := some d, op := op, type := type, pos := pos, after := after, guard := guard } = some true) (hq : quietOp C ⟨t, dd⟩ st op = some (v, st')) (h : EvPlan C ol.toArray (i :: done) rest' ⟨tset t d v, dd⟩ st' Q) :
    EvPlan C ol.toArray done (i :: rest') ⟨t, dd⟩ st Q := EvPlan.quiet (toA ho) hh hw hq h
theorem dS (ho : ol[i]? = some { dst := some d, op := op, type := type, pos := pos, after := after, guard := guard }) (hw : wantedV ⟨t, dd⟩ ol.toArray { dst := some d, op := op, type := type, pos := pos, after := after, guard := guard } = some false) (h : EvPlan C ol.toArray (i :: done) rest' ⟨tset t d (.tup []), dd⟩ st Q) :
    EvPlan C ol.toArray done (i :: rest') ⟨t, dd⟩ st Q := EvPlan.skip (toA ho) hw h
theorem dG {j : Nat} {want : Bool} {dj : Tmp} {p : Prop} [Decidable p] (ho : ol[i]? = some { dst := some d, op := op, type := type, pos := pos, after := after, guard := some (j, want) }) (hj : (ol[j]?).bind (·.dst) = some dj) (hb : tget t dj = .bool (decide p))
    (h1 : p → EvPlan C ol.toArray done (i :: rest') ⟨t, dd⟩ st Q) (h0 : ¬ p → EvPlan C ol.toArray done (i :: rest') ⟨t, dd⟩ st Q) : EvPlan C ol.toArray done (i :: rest') ⟨t, dd⟩ st Q := by
  by_cases h : p
  · exact h1 h
  · exact h0 h
theorem dL (ho : ol[i]? = some { dst := some d, op := op, type := type, pos := pos, after := after, guard := guard }) (hh : hoistAt ol.toArray i = false) (hi : hoist op = true) (hw : wantedV ⟨t, dd⟩ ol.toArray { dst := some d, op := op, type := type, pos := pos, after := after, guard := guard } = some true) (hq : quietOp C ⟨t, dd⟩ st op = some (v, st')) (hl : again ol.toArray done i = l) (hs : l.all (stillOk C ⟨tset t d v, dd⟩ st' ol.toArray) = true) (h : EvPlan C ol.toArray (i :: done) rest' ⟨tset t d v, dd⟩ st' Q) :
    EvPlan C ol.toArray done (i :: rest') ⟨t, dd⟩ st Q := EvPlan.late (toA ho) hh hi hw hq hl hs h
theorem dW (ho : ol[i]? = some { dst := some d, op := op, type := type, pos := pos, after := after, guard := guard }) (hh : hoistAt ol.toArray i = false) (hp : plainWr op = true) (hw : wantedV ⟨t, dd⟩ ol.toArray { dst := some d, op := op, type := type, pos := pos, after := after, guard := guard } = some true) (hq : wrOp C (callF C 0) (evalO C ⟨t, dd⟩) st op = some (v, st')) (hl : again ol.toArray done i = l) (hs : l.all (stillOk C ⟨tset t d v, dd⟩ st' ol.toArray) = true) (h : EvPlan C ol.toArray (i :: done) rest' ⟨tset t d v, dd⟩ st' Q) :
    EvPlan C ol.toArray done (i :: rest') ⟨t, dd⟩ st Q := EvPlan.wr (toA ho) hh hp hw hq hl hs h
theorem dWn (ho : ol[i]? = some { dst := none, op := op, type := type, pos := pos, after := after, guard := guard }) (hh : hoistAt ol.toArray i = false) (hp : plainWr op = true) (hw : wantedV ⟨t, dd⟩ ol.toArray { dst := none, op := op, type := type, pos := pos, after := after, guard := guard } = some true) (hq : wrOp C (callF C 0) (evalO C ⟨t, dd⟩) st op = some (v, st')) (hl : again ol.toArray done i = l) (hs : l.all (stillOk C ⟨t, dd⟩ st' ol.toArray) = true) (h : EvPlan C ol.toArray (i :: done) rest' ⟨t, dd⟩ st' Q) :
    EvPlan C ol.toArray done (i :: rest') ⟨t, dd⟩ st Q := EvPlan.wr (toA ho) hh hp hw hq hl hs h
theorem dC {g : Operand} {args : Array Operand} {ats : Array TypeId} {k : FuncId} {fi ca as : List V} (ho : ol[i]? = some { dst := some d, op := .call { callee := .value g, args := args, argTypes := ats }, type := type, pos := pos, after := after, guard := guard }) (hh : hoistAt ol.toArray i = false)
    (hw : wantedV ⟨t, dd⟩ ol.toArray { dst := some d, op := .call { callee := .value g, args := args, argTypes := ats }, type := type, pos := pos, after := after, guard := guard } = some true)
    (hg : evalO C ⟨t, dd⟩ g = .func (.func k) fi ca) (ha : fi ++ args.toList.map (evalO C ⟨t, dd⟩) ++ ca = as) (hc : FnS C k as st v st') (hl : again ol.toArray done i = l) (hs : l.all (stillOk C ⟨tset t d v, dd⟩ st' ol.toArray) = true)
    (h : EvPlan C ol.toArray (i :: done) rest' ⟨tset t d v, dd⟩ st' Q) : EvPlan C ol.toArray done (i :: rest') ⟨t, dd⟩ st Q :=
  EvPlan.call (toA ho) hh hw hg hl (by rw [ha]; exact hc.use ⟨hs, h⟩)
theorem dX {g : Operand} {args : Array Operand} {ats : Array TypeId} {k : FuncId} {fi ca as : List V} (ho : ol[i]? = some { dst := some d, op := .call { callee := .value g, args := args, argTypes := ats }, type := type, pos := pos, after := after, guard := guard }) (hh : hoistAt ol.toArray i = false)
    (hw : wantedV ⟨t, dd⟩ ol.toArray { dst := some d, op := .call { callee := .value g, args := args, argTypes := ats }, type := type, pos := pos, after := after, guard := guard } = some true)
    (hg : evalO C ⟨t, dd⟩ g = .func (.func k) fi ca) (ha : fi ++ args.toList.map (evalO C ⟨t, dd⟩) ++ ca = as) (hl : again ol.toArray done i = l)
    (hc : Fn C k as st fun v st' => l.all (stillOk C ⟨tset t d v, dd⟩ st' ol.toArray) = true ∧ EvPlan C ol.toArray (i :: done) rest' ⟨tset t d v, dd⟩ st' Q) : EvPlan C ol.toArray done (i :: rest') ⟨t, dd⟩ st Q :=
  EvPlan.call (toA ho) hh hw hg hl (by rw [ha]; exact hc)
end

/-! Some operations. -/
theorem qMake {C : Cfg} {t : TypeId} {l c : Operand} {f : Fr} {H : List (Nat × Ob)} {nn : Nat} {e : TypeId} {k : IntKind} {n s : Nat} {zs : List V} (hu : C.P.underlying t = some (.slice e)) (hl : evalO C f l = .int k (n : Int)) (hc : evalO C f c = .int k (n : Int))
    (hs : szOf C e = some s) (hz : (zeroV C e).bind cellsOf = some zs) (h1 : 0 < s) (h2 : zs.length = s) (h3 : n * byOf C e ≤ 2 ^ 47) (h4 : n < 2 ^ 62) :
    quietOp C f ⟨H, nn⟩ (.makeSlice t l c) = some (.msl nn 0 n n, ⟨(nn, .cells (List.replicate n zs).flatten) :: H, nn + 1⟩) := by
  have hr : rdOp C H (evalO C f) (.makeSlice t l c) = none := rfl
  unfold quietOp
  simp only [hr, alOp, hu, hl, hc, hs, hz]
  rw [if_pos ⟨by omega, Int.le_refl _, h1, h2, by exact_mod_cast h3, by exact_mod_cast h4⟩, if_pos True.intro, Int.toNat_natCast]
  rfl
/-- A place in a slice of the evaluator's memory. -/
theorem qAt {C : Cfg} {t : TypeId} {x ix : Operand} {f : Fr} {st : St} {e : TypeId} {k : IntKind} {i : Int} {b off len cap s : Nat} (hx : evalO C f x = .msl b off len cap) (hi : evalO C f ix = .int k i) (hu : C.P.underlying t = some (.slice e))
    (hs : szOf C e = some s) (h0 : 0 ≤ i) (h1 : i < len) (h2 : 0 < s) : quietOp C f st (.indexAddr t x ix) = some (.ptr b (off + i.toNat * s), st) := by
  rw [quiet_rd rfl]
  simp only [rdOp, hx, hi, indexAddrV, hu, hs]
  rw [if_pos ⟨h0, h1, h2⟩]
  rfl
theorem flatten_one (n : Nat) (v : V) : (List.replicate n [v]).flatten = List.replicate n v := by
  induction n with
  | zero => rfl
  | succ n ih => simp [List.replicate_succ, ih]

theorem allN {α : Type} {p : α → Bool} : ([] : List α).all p = true := rfl

/-- Bytes of a constant text, at a region's start. -/
theorem opsP {C : Cfg} {t : List (Nat × V)} {dd : List (V × List V)} {st : St} {Q : Ex → Fr → St → Prop} {id : Nat} {d d2 : Tmp} {ty len : Nat} {parts : Array (Nat × Operand)} {y1 y2 : TypeId} {p1 p2 : String} {a1 a2 : Array Edge} {rest : List Oper} {v : V}
    (hT : bytesT C ty = true) (hb : buildSliceV C ty len (parts.toList.map fun p => (p.1, evalO C ⟨t, dd⟩ p.2)) = some v)
    (h : EvOps C (({ dst := some d, op := .buildSlice ty len parts, type := y1, pos := p1, after := a1, guard := none } : Oper) :: { dst := some d2, op := .convert ty ty (.tmp d), type := y2, pos := p2, after := a2, guard := none } :: rest).toArray rest ⟨tset (tset t d v) d2 v, dd⟩ st (Q .normal)) :
    Ev C (.region id (({ dst := some d, op := .buildSlice ty len parts, type := y1, pos := p1, after := a1, guard := none } : Oper) :: { dst := some d2, op := .convert ty ty (.tmp d), type := y2, pos := p2, after := a2, guard := none } :: rest).toArray false) ⟨t, dd⟩ st Q := by
  refine Ev.opsC (f2 := ⟨tset (tset t d v) d2 v, dd⟩) (rest := rest) ?_ h
  have hb' : buildSliceV C ty len (parts.toList.map fun (i, x) => (i, evalO C ⟨t, dd⟩ x)) = some v := hb
  simp only [pairV, hT, hb', and_self, if_true, Option.map_some, Fr.put]

/-! What a goal is. -/
section
variable {C : Cfg} {ops : Array Oper} {rest : List Oper} {f : Fr} {st : St} {Q : Fr → St → Prop} {R : Ex → Fr → St → Prop} {dst : Option Tmp} {op : Op} {type : TypeId} {pos : String} {after : Array Edge} {g : Nat × Bool} {l : List Nat} {done : List Nat} {i : Nat} {c : Operand} {a b : Code}
theorem isO (h : EvOps C ops ({ dst := dst, op := op, type := type, pos := pos, after := after, guard := none } :: rest) f st Q) : EvOps C ops ({ dst := dst, op := op, type := type, pos := pos, after := after, guard := none } :: rest) f st Q := h
theorem isG (h : EvOps C ops ({ dst := dst, op := op, type := type, pos := pos, after := after, guard := some g } :: rest) f st Q) : EvOps C ops ({ dst := dst, op := op, type := type, pos := pos, after := after, guard := some g } :: rest) f st Q := h
theorem isP (h : EvPlan C ops done (i :: l) f st Q) : EvPlan C ops done (i :: l) f st Q := h
theorem isC (h : Ev C (.cond c a b) f st R) : Ev C (.cond c a b) f st R := h
theorem isR {ops : Array Oper} {id : Nat} (h : Ev C (.region id ops true) f st R) : Ev C (.region id ops true) f st R := h
end

theorem stillL {C : Cfg} {f : Fr} {st : St} {ol : List Oper} {i : Nat} {o : Oper} {d : Tmp} {v : V} (ho : ol[i]? = some o) (hw : wantedV f ol.toArray o = some true) (hd : o.dst = some d) (hq : rdOp C st.H (evalO C f) o.op = some v) (ht : v = tget f.t d) : stillOk C f st ol.toArray i = true :=
  stillOk_rd (toA ho) hw hd hq ht

/-! Leaves. -/
theorem leafP {fn : Func} {k : FuncId} {n0 : Nat} {e : Ex} {t : List (Nat × V)} {st : St} {v : V} {vs : List V} (he : e = .ret ∨ e = .normal) (hr : resultsV C st.H t fn.results.toList = some vs)
    (hv : (leaveV C k n0 (packV vs) st).1 = v) (hp : pureV v = true) : Lv C fn k n0 (fun v1 _ => pureV v1 = true ∧ v1 = v) e ⟨t, []⟩ st := by
  rcases he with rfl | rfl
  all_goals exact ⟨rfl, vs, hr, by rw [hv]; exact hp, hv⟩
/-- A function in its caller's memory, by its answer. -/
theorem goS {k : FuncId} {fn : Func} {c : Code} {args : List V} {st st' : St} {v : V} (hf : C.P.funcs[k]? = some fn) (hx : C.X k args st = none) (hp : C.pure k = false) (hb : fn.body = some c) (hl : decide (args.length ≤ fn.ntmps) = true)
    (h : ∀ t : List (Nat × V), (∀ i v, args[i]? = some v → tget t i = v) → Ev C c ⟨t, []⟩ st (Lv C fn k st.n fun v1 st1 => v1 = v ∧ st1 = st')) : FnS C k args st v st' := ⟨goI hf hx hp hb hl h⟩
theorem leafS {fn : Func} {k : FuncId} {n0 : Nat} {t : List (Nat × V)} {st st' : St} {v : V} {vs : List V} (hr : resultsV C st.H t fn.results.toList = some vs)
    (hv : leaveV C k n0 (packV vs) st = (v, st')) : Lv C fn k n0 (fun v1 st1 => v1 = v ∧ st1 = st') .ret ⟨t, []⟩ st := ⟨rfl, vs, hr, by rw [hv], by rw [hv]⟩
theorem leafR {fn : Func} {k : FuncId} {n0 : Nat} {t : List (Nat × V)} {st : St} {v : V} {vs : List V} (hr : resultsV C st.H t fn.results.toList = some vs)
    (hv : (leaveV C k n0 (packV vs) st).1 = v) (hp : pureV v = true) : Lv C fn k n0 (fun v1 _ => pureV v1 = true ∧ v1 = v) .ret ⟨t, []⟩ st := leafP (.inl rfl) hr hv hp
theorem leafN {fn : Func} {k : FuncId} {n0 : Nat} {t : List (Nat × V)} {st : St} {v : V} {vs : List V} (hr : resultsV C st.H t fn.results.toList = some vs)
    (hv : (leaveV C k n0 (packV vs) st).1 = v) (hp : pureV v = true) : Lv C fn k n0 (fun v1 _ => pureV v1 = true ∧ v1 = v) .normal ⟨t, []⟩ st := leafP (.inr rfl) hr hv hp
end
end Go.Vm
/- Known functions that answer rows of texts; tables. -/
set_option linter.unusedSimpArgs false
set_option linter.unusedVariables false
namespace Go.Vm
open Go Go.RowKit

theorem VRe_strs_mk {g : Ghost} : ∀ (l : List (List UInt8)), VRe g 1 (l.map .str) (l.map fun s => .string ⟨s.toArray⟩)
  | [] => rfl
  | s :: l => VRe_cons.2 ⟨[.string ⟨s.toArray⟩], _, rfl, rfl, rfl, ⟨_, rfl, rfl, rfl⟩, VRe_strs_mk l⟩

/-- A call that makes a row of texts, and answers it. -/
theorem AC_rows {C : Cfg} (hC : COk C) {k : FuncId} {args : List V} {st : St} {l : List (List UInt8)} {T : TypeId} (hf : ∃ fn, C.P.funcs[k]? = some fn ∧ fn.body.isSome = true)
    (h : ∀ (g : Ghost) (w : World) (args' : Array Value), (∀ B o u, g.st B o = some u → w.cell? ⟨B, o, none⟩ = some u) → (∀ i, VR g (C.glob i) (.pointer (some ⟨i, 0, none⟩))) → C.I w → VRl g args args'.toList →
      Calls C.P k args' w fun e w' => e = .returned (.slice (some ⟨w.heap.size, 0, none⟩) l.length l.length) ∧ w' = w.alloc (.cells (l.map fun s => Value.string ⟨s.toArray⟩).toArray T)) : AC C k args st (.sl .full (l.map .str)) st := by
  refine ⟨Nat.le_refl _, hf, fun g w0 base w args' hG hgl ha => (h g w args' hG.stab hgl.vr (hC.inv _ _ (fun k hk => hG.below.block k (Nat.lt_of_lt_of_le hk hgl.lo)) hgl.inv) ha).mono fun e w' ⟨he, hw⟩ => ?_⟩
  subst hw
  have hal := hG.alloc_row (l.map fun s => Value.string ⟨s.toArray⟩) #[] T (0, 0)
  rw [Array.append_empty] at hal
  refine ⟨_, g.withRow w.heap.size (l.map fun s => Value.string ⟨s.toArray⟩), he, ⟨hal.2, fun i _ => ⟨rfl, rfl⟩⟩, ?_, hal.1⟩
  refine ⟨some ⟨w.heap.size, 0, none⟩, l.length, l.map fun s => Value.string ⟨s.toArray⟩, 1, by rw [List.length_map], VRe_strs_mk l, ?_, ?_, fun _ => ⟨w.heap.size, 0, rfl, Ghost.row_withRow _ _⟩⟩
  · simp [TipR]
  · simp

/-- Arguments, one by one. -/
theorem VRl_one {g : Ghost} {x : V} {args' : Array Value} (h : VRl g [x] args'.toList) : ∃ v, args' = #[v] ∧ VR g x v := by
  obtain ⟨v, r, e, hv, rfl⟩ := h
  exact ⟨v, by cases args'; simp_all, hv⟩
theorem VRl_two {g : Ghost} {x y : V} {args' : Array Value} (h : VRl g [x, y] args'.toList) : ∃ v u, args' = #[v, u] ∧ VR g x v ∧ VR g y u := by
  obtain ⟨v, r, e, hv, u, r2, e2, hu, rfl⟩ := h
  subst e2
  exact ⟨v, u, by cases args'; simp_all, hv, hu⟩

/-- A table stands where its block is the same. -/
theorem tab_same {P : Program} {w w' : World} {name : String} {k : IntKind} {zs : List Int} {i : Nat} (hi : P.globalNamed name = some i) (hb : w'.heap[i]? = w.heap[i]?) (h : Lib.TabIs P w name k zs) : Lib.TabIs P w' name k zs := by
  unfold Lib.TabIs World.var? at h ⊢
  rw [hi] at h ⊢
  simp only [Option.bind_some] at h ⊢
  rw [hb]; exact h
end Go.Vm
/- Loops by a label. -/
set_option linter.unusedSimpArgs false
set_option linter.unusedVariables false
namespace Go.Vm
open Go Go.RowKit

section
variable {C : Cfg} {f : Fr} {st : St} {Q : Ex → Fr → St → Prop}

/-- Code, piece behind piece. -/
def EvLd (C : Cfg) : List Code → Fr → St → (Ex → Fr → St → Prop) → Prop
  | [], f, st, Q => Q .normal f st
  | c :: l, f, st, Q => Ev C c f st (Nx (fun f' st' => EvLd C l f' st' Q) Q)
structure EvL (C : Cfg) (l : List Code) (f : Fr) (st : St) (Q : Ex → Fr → St → Prop) : Prop where
  ex : EvLd C l f st Q

theorem EvL.nil (h : Q .normal f st) : EvL C [] f st Q := ⟨h⟩
theorem EvL.cons {c : Code} {l : List Code} (h : Ev C c f st (Nx (fun f' st' => EvL C l f' st' Q) Q)) : EvL C (c :: l) f st Q :=
  ⟨h.mono fun e f' st' hq => by cases e <;> first | exact hq | exact hq.ex⟩

theorem EvLd.mono : ∀ {l : List Code} {f : Fr} {st : St} {Q Q' : Ex → Fr → St → Prop}, EvLd C l f st Q → (∀ e f' st', Q e f' st' → Q' e f' st') → EvLd C l f st Q'
  | [], f, st, Q, Q', h, hq => hq _ _ _ h
  | c :: l, f, st, Q, Q', h, hq => Ev.mono h fun e f' st' h' => by
    cases e <;> first | exact hq _ _ _ h' | exact EvLd.mono h' hq

theorem EvLd.append : ∀ {l m : List Code} {f : Fr} {st : St} {Q : Ex → Fr → St → Prop}, EvLd C l f st (Nx (fun f' st' => EvLd C m f' st' Q) Q) → EvLd C (l ++ m) f st Q
  | [], m, f, st, Q, h => h
  | c :: l, m, f, st, Q, h => Ev.mono h fun e f' st' h' => by
    cases e <;> first | exact h' | exact EvLd.append h'
theorem EvLd.split : ∀ {l m : List Code} {f : Fr} {st : St} {Q : Ex → Fr → St → Prop}, EvLd C (l ++ m) f st Q → EvLd C l f st (Nx (fun f' st' => EvLd C m f' st' Q) Q)
  | [], m, f, st, Q, h => h
  | c :: l, m, f, st, Q, h => Ev.mono h fun e f' st' h' => by
    cases e <;> first | exact h' | exact EvLd.split h'

/-- The pieces of code. -/
def flat : Code → List Code
  | .seq a b => flat a ++ flat b
  | c => [c]

theorem ev_flat : ∀ {c : Code} {f : Fr} {st : St} {Q : Ex → Fr → St → Prop}, EvLd C (flat c) f st Q → Ev C c f st Q := by
  intro c
  induction c with
  | seq a b iha ihb =>
    intro f st Q h
    refine Ev.seq ((iha (EvLd.split h)).mono fun e f' st' hq => ?_)
    cases e <;> first | exact hq | exact ihb hq
  | _ => intro f st Q h; exact Ev.mono h fun e f' st' hq => by cases e <;> exact hq

/-- The pieces ahead of a label, and behind it. -/
def preL (l : Nat) : List Code → List Code
  | [] => []
  | .label l' :: r => if l' = l then [] else .label l' :: preL l r
  | c :: r => c :: preL l r
def postL (l : Nat) : List Code → List Code
  | [] => []
  | .label l' :: r => if l' = l then r else postL l r
  | _ :: r => postL l r

theorem scope_loop {b rest : Code} {l : Nat} {t : List (Nat × V)} (hf : findLabel b l = some rest) (hp : flat b = preL l (flat b) ++ .label l :: postL l (flat b)) (hr : flat rest = .skip :: postL l (flat b)) (Inv : Nat → List (Nat × V) → St → Prop)
    (start : EvL C (preL l (flat b)) ⟨t, []⟩ st (Nx (fun f' st' => f'.d = [] ∧ ∃ n, Inv n f'.t st') (Gx (Jx C b Q) Q)))
    (step : ∀ n t st, Inv n t st → (∀ t' st', (∃ m, m < n ∧ Inv m t' st') → EvS C b rest ⟨t', []⟩ st' Q) → EvL C (postL l (flat b)) ⟨t, []⟩ st (Gx (Jx C b Q) Q)) : Ev C (.scope b) ⟨t, []⟩ st Q := by
  have toS : ∀ t st, EvL C (postL l (flat b)) ⟨t, []⟩ st (Gx (Jx C b Q) Q) → EvS C b rest ⟨t, []⟩ st Q := fun t st h => by
    refine EvS.of (ev_flat ?_)
    rw [hr]
    exact Ev.skip h.ex
  have key : ∀ n t st, Inv n t st → EvL C (postL l (flat b)) ⟨t, []⟩ st (Gx (Jx C b Q) Q) := by
    intro n
    induction n using Nat.strongRecOn with
    | _ n ih =>
      intro t st hi
      exact step n t st hi fun t' st' ⟨m, hm, hi'⟩ => toS t' st' (ih m hm t' st' hi')
  refine Ev.scope (EvS.of (ev_flat ?_))
  rw [hp]
  refine EvLd.append (start.ex.mono fun e f' st' hq => ?_)
  cases e <;> first | exact hq | skip
  obtain ⟨hd, n, hi⟩ := hq
  obtain ⟨t', d'⟩ := f'
  simp only at hd hi
  subst hd
  exact Ev.label (key n t' st' hi).ex
end
end Go.Vm
