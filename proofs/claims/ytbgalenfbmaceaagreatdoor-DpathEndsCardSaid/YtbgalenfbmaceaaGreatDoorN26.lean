/- Ranges over maps: whatever the order. -/
import Derived.Test.YtbgalenfbmaceaaGreatDoorN22
import Derived.Maps.RangeRun
import Derived.Defers
import Derived.Test.YtbgalenfbmaceaaGreatDoorN18
set_option linter.unusedSimpArgs false
set_option linter.unusedVariables false
namespace Go.Vm
open Go Go.RowKit

section
variable {C : Cfg} {ops : Array Oper} {f : Fr} {st : St} {Q : Fr → St → Prop} {dst : Option Tmp} {type : TypeId} {pos : String} {after : Array Edge} {rest : List Oper}

/-- A range over a map begins. -/
theorem EvOps.range {t key elem : TypeId} {x : Operand} {mb : Nat} {es : List (V × V)} (hu : C.P.underlying t = some (.map key elem)) (hx : evalO C f x = .map mb) (hm : hget st.H mb = some (.map es))
    (h : ∀ (bs : List Nat) (ck : Nat), bs.length = es.length → bs.Nodup → EvOps C ops rest (f.put dst (.ptr st.n 0)) ⟨(st.n, .iter mb ck []) :: hset st.H mb (.pin es bs ck), st.n + 1⟩ Q) :
    EvOps C ops ({ dst := dst, op := .range t x, type := type, pos := pos, after := after, guard := none } :: rest) f st Q :=
  EvOps.go rfl fun hC hP hX w0 base g w a hG hgl hf hd Kc Qx hKc => by
    have hρ := hf.eval (C := C) hgl
    have hxr := hρ x
    rw [hx] at hxr
    obtain ⟨B, hκ, hxe⟩ := hxr
    obtain ⟨es', ck, hb, hes, hstm, hst⟩ := hG.obj mb _ B hm hκ
    have hlen : (es'.toList.map (·.born)).length = es.length := by rw [List.length_map, hes.length]
    have hnd : (es'.toList.map (·.born)).Nodup := by
      have := (Stamped.iff.1 hstm).1
      exact this.imp fun h => Nat.ne_of_lt h
    have h1 := hG.reob (ob' := .pin es (es'.toList.map (·.born)) ck) hm fun B' hκ' _ => by
      rw [hκ] at hκ'; cases hκ'
      exact ⟨es', hb, hes, rfl, hstm, hst⟩
    have h2 := h1.add (some (.iter mb ck []))
    have hn := hG.lim st.n (Nat.le_refl _)
    obtain ⟨m1, m2⟩ := h2.mat (i := st.n) (ob := .iter mb ck []) (by simp [St.add, hget]) hn.1 (by simp [St.add]) (.mapIter (some B) ck #[] ck)
      ⟨B, by simp only [Ghost.withκ]; split; (rename_i e; rw [← e, hκ] at hn; cases hn.1); exact hκ, heap_new w _, fun o => hG.st_new (Nat.le_refl _) o⟩
    unfold Oper.wp
    have hrun : (execOp a.eval { dst := dst, op := .range t x, type := type, pos := pos, after := after, guard := none }).run C.P w = .ok (.value (.pointer (some ⟨w.heap.size, 0, none⟩))) (w.alloc (.mapIter (some B) ck #[] ck)) := by
      simp only [execOp, hxe, Sem.run_bind, run_range_map w t key elem B es' ck hu hb, Result.andThen_ok, Sem.run_pure]
    rw [hrun, Oper.upon_value]
    refine hKc _ _ _ _ _ (h _ ck hlen hnd) (Nat.le_succ _) ⟨m2, fun i hi => ?_⟩ ((hf.mono m2).put hd ?_) m1 (size_put _ _ _)
    · simp only [Ghost.withκ]
      rw [if_neg (by omega)]
      exact ⟨rfl, trivial⟩
    · exact ⟨w.heap.size, by simp [Ghost.withκ], rfl⟩

/-- The next entry. -/
theorem EvOps.next {it : Operand} {ib mb ck : Nat} {seen bs : List Nat} {es : List (V × V)} (hit : evalO C f it = .ptr ib 0) (hib : hget st.H ib = some (.iter mb ck seen)) (hmb : hget st.H mb = some (.pin es bs ck))
    (h1 : ∀ (i b : Nat) (e : V × V), bs[i]? = some b → es[i]? = some e → b ∉ seen → EvOps C ops rest (f.put dst (.tup [.bool true, e.1, e.2])) { st with H := hset st.H ib (.iter mb ck (seen ++ [b])) } Q)
    (h0 : (∀ b ∈ bs, b ∈ seen) → EvOps C ops rest (f.put dst (.tup [.bool false])) st Q) :
    EvOps C ops ({ dst := dst, op := .next it false, type := type, pos := pos, after := after, guard := none } :: rest) f st Q :=
  EvOps.go rfl fun hC hP hX w0 base g w a hG hgl hf hd Kc Qx hKc => by
    have hρ := hf.eval (C := C) hgl
    have hxr := hρ it
    rw [hit] at hxr
    obtain ⟨Bi, hκi, hxe⟩ := hxr
    obtain ⟨B, hκ, hbi, hsti⟩ := hG.obj ib _ Bi hib hκi
    obtain ⟨es', hb, hes, hbs, hstm, hst⟩ := hG.obj mb _ B hmb hκ
    have hmem : ∀ b : Nat, (seen.toArray.contains b = true) ↔ b ∈ seen := fun b => by simp
    unfold Oper.wp
    rcases run_next_at (P := C.P) w type Bi B ck ck seen.toArray es' ck hbi hb hstm.2 (Nat.le_refl _) with ⟨hz, hrun⟩ | ⟨e, he, w1, hw1, hrun⟩
    · have hrun' : (execOp a.eval { dst := dst, op := .next it false, type := type, pos := pos, after := after, guard := none }).run C.P w = .ok (.value (.tuple #[.bool false])) w := by
        simp only [execOp, hxe, Sem.run_bind, hrun, Result.andThen_ok, Sem.run_pure]
      rw [hrun', Oper.upon_value]
      refine hKc _ _ g _ _ (h0 fun b hb' => ?_) (Nat.le_refl _) (Ext.refl _ _) (hf.put hd ⟨#[.bool false], rfl, _, _, rfl, rfl, rfl⟩) hG (size_put _ _ _)
      rw [← hbs] at hb'
      obtain ⟨e, he, rfl⟩ := List.mem_map.1 hb'
      have hl : leftOf es' seen.toArray = #[] := Array.eq_empty_of_size_eq_zero hz
      refine Classical.byContradiction fun hns => ?_
      have : e ∈ leftOf es' seen.toArray := by
        unfold leftOf
        rw [Array.mem_filter]
        refine ⟨by simpa using he, ?_⟩
        simp only [Bool.not_eq_true']
        cases hc : seen.toArray.contains e.born with
        | false => rfl
        | true => exact absurd ((hmem _).1 hc) hns
      rw [hl] at this
      simp at this
    · have hrun' : (execOp a.eval { dst := dst, op := .next it false, type := type, pos := pos, after := after, guard := none }).run C.P w = .ok (.value (.tuple #[.bool true, e.key, e.val])) (Go.ChangeMaps.setBlock w1 Bi (.mapIter (some B) ck (seen.toArray.push e.born) ck)) := by
        simp only [execOp, hxe, Sem.run_bind, hrun, Result.andThen_ok, Sem.run_pure]
      rw [hrun', Oper.upon_value]
      have hem : e ∈ es'.toList ∧ e.born ∉ seen := by
        unfold leftOf at he
        have := Array.mem_filter.1 (Array.mem_toList_iff.1 he)
        refine ⟨by simpa using this.1, fun hs => ?_⟩
        have h2 := this.2
        rw [(hmem _).2 hs] at h2
        cases h2
      obtain ⟨i, p, hi1, hi2, hk, hv⟩ := hes.get2 hem.1
      have hG1 : GR g st w0 base w1 := by
        rcases hw1 with rfl | rfl
        · exact hG
        · exact hG.drew
      have hbi1 : w1.heap[Bi]? = some (.mapIter (some B) ck seen.toArray ck) := by rcases hw1 with rfl | rfl <;> exact hbi
      refine hKc _ _ g _ _ (h1 i e.born p (by rw [← hbs, List.getElem?_map, hi1]; rfl) hi2 hem.2) (Nat.le_refl _) (Ext.refl _ _) (hf.put hd ⟨#[.bool true, e.key, e.val], rfl, _, _, rfl, rfl, _, _, rfl, hk, _, _, rfl, hv, rfl⟩) ?_ (size_put _ _ _)
      exact hG1.set_obj hib hκi hsti _ ⟨B, hκ, by rw [heap_setObj]; simp [hbi1], hsti⟩

/-- The entry that came last. -/
theorem EvOps.entry {it : Operand} {ib mb ck i b : Nat} {seen bs : List Nat} {es : List (V × V)} {e : V × V} (hit : evalO C f it = .ptr ib 0) (hib : hget st.H ib = some (.iter mb ck (seen ++ [b]))) (hmb : hget st.H mb = some (.pin es bs ck))
    (hb : bs[i]? = some b) (he : es[i]? = some e) (h : EvOps C ops rest (f.put dst (.tup [e.1, e.2])) st Q) :
    EvOps C ops ({ dst := dst, op := .entry it, type := type, pos := pos, after := after, guard := none } :: rest) f st Q :=
  EvOps.go rfl fun hC hP hX w0 base g w a hG hgl hf hd Kc Qx hKc => by
    have hρ := hf.eval (C := C) hgl
    have hxr := hρ it
    rw [hit] at hxr
    obtain ⟨Bi, hκi, hxe⟩ := hxr
    obtain ⟨B, hκ, hbi, hsti⟩ := hG.obj ib _ Bi hib hκi
    obtain ⟨es', hbm, hes, hbs, hstm, hst⟩ := hG.obj mb _ B hmb hκ
    obtain ⟨e', he', hk, hv⟩ := hes.get he
    have hbe : e'.born = b := by
      rw [← hbs, List.getElem?_map, he'] at hb
      simpa using hb
    have hnd : (es'.toList.map (·.born)).Nodup := (Stamped.iff.1 hstm).1.imp fun h => Nat.ne_of_lt h
    have hrun := run_entry_at (P := C.P) w Bi B ck seen.toArray es' ck e' (by rw [hbe]; simpa using hbi) hbm (List.mem_of_getElem? he') hnd
    unfold Oper.wp
    have hrun' : (execOp a.eval { dst := dst, op := .entry it, type := type, pos := pos, after := after, guard := none }).run C.P w = .ok (.value (.tuple #[e'.key, e'.val])) w := by
      simp only [execOp, hxe, Sem.run_bind, hrun, Result.andThen_ok, Sem.run_pure]
    rw [hrun', Oper.upon_value]
    exact hKc _ _ g _ _ h (Nat.le_refl _) (Ext.refl _ _) (hf.put hd ⟨#[e'.key, e'.val], rfl, _, _, rfl, hk, _, _, rfl, hv, rfl⟩) hG (size_put _ _ _)
end

section
variable {C : Cfg} {ops : Array Oper} {f : Fr} {st : St} {Q : Fr → St → Prop} {dst : Option Tmp} {type : TypeId} {pos : String} {after : Array Edge} {rest : List Oper}
/-- A slice of which nothing is known, held against nil. -/
theorem EvOps.nilSl {op : BinOp} {t e yt : TypeId} {x y : Operand} {tip : Tip} {xs : List V} (hy : isNilSl y = true) (hu : C.P.underlying t = some (.slice e)) (ho : op = .eql ∨ op = .neq) (hx : evalO C f x = .sl tip xs)
    (h : ∀ b, EvOps C ops rest (f.put dst (.bool b)) st Q) : EvOps C ops ({ dst := dst, op := .binOp op t x y yt, type := type, pos := pos, after := after, guard := none } :: rest) f st Q :=
  EvOps.go rfl fun hC hP hX w0 base g w a hG hgl hf hd Kc Qx hKc => by
    have hxr := hf.eval (C := C) hgl x
    rw [hx] at hxr
    obtain ⟨ad, cap, vs, S, hxe, _⟩ := hxr
    unfold Oper.wp
    have hrun : (execOp a.eval { dst := dst, op := .binOp op t x y yt, type := type, pos := pos, after := after, guard := none }).run C.P w = .ok (.value (.bool (if op = .eql then ad.isNone else !ad.isNone))) w := by
      simp only [execOp]
      rw [Sem.run_bind, isNilSl_eval hy a, hxe, run_nilSl (C := C) ho hu]
      rfl
    rw [hrun, Oper.upon_value]
    exact hKc _ _ g _ _ (h _) (Nat.le_refl _) (Ext.refl _ _) (hf.put hd rfl) hG (size_put _ _ _)
end

section
variable {C : Cfg} {c : Code} {f : Fr} {st : St} {Q : Ex → Fr → St → Prop}
/-- Names may be forgotten. -/
theorem Ev.forget {H : List (Nat × Ob)} (hs : H.Sublist st.H) (h : Ev C c f ⟨H, st.n⟩ Q) : Ev C c f st Q :=
  ⟨fun hC hP hX N w0 base g w a hc hG hgl hf hN => h.ex hC hP hX hc (hG.sub hs (Nat.le_refl _)) hgl hf hN⟩
end
end Go.Vm
/- Calls that are put off. -/
namespace Go.Vm
open Go Go.RowKit

section
variable {C : Cfg}

/-- What is told of the answer of a body that has ended. -/
theorem results_sound (hC : COk C) {fn : Func} {k : FuncId} {n0 : Nat} {Q : V → St → Prop} {g1 : Ghost} {st2 : St} {w0 : W0} {base : Nat} {w' : World} {t : List (Nat × V)} {tmps : Array Value} (e2 : GR g1 st2 w0 base w') (ht : ∀ i, VR g1 (tget t i) (tmps.getD i undef)) {vs : List V}
    (hvs : resultsV C st2.H t fn.results.toList = some vs) (hQ : Q (leaveV C k n0 (packV vs) st2).1 (leaveV C k n0 (packV vs) st2).2) :
    ∃ v', (results fn tmps).run C.P w' = .ok v' w' ∧ ∃ v st' g', Q v st' ∧ st'.n = st2.n ∧ g1.le g' ∧ (∀ i, g'.κ i = g1.κ i ∧ g'.θ i = g1.θ i) ∧ VR g' v v' ∧ GR g' st' w0 base w' := by
  obtain ⟨xs, h2, h3⟩ := resultsV_sound hC e2 ht _ hvs
  have hres : ∃ x, (results fn tmps).run C.P w' = .ok x w' ∧ VR g1 (packV vs) x := by
    refine ⟨if h : xs.toArray.size = 1 then xs.toArray[0] else .tuple xs.toArray, ?_, ?_⟩
    · unfold results
      rw [show fn.results = fn.results.toList.toArray from rfl, List.mapM_toArray]
      simp only [Sem.run_bind, Sem.run_map]
      rw [h2 _ (fun _ => rfl) (fun _ _ => rfl)]
      simp
    · match vs, h3 with
      | [], h3 => simp only [VRl] at h3; subst h3; exact ⟨#[], rfl, rfl⟩
      | [v], h3 =>
        obtain ⟨u, r, e, hu, hr⟩ := h3
        simp only [VRl] at hr
        subst hr; subst e
        exact hu
      | a :: b :: vs, h3 =>
        have := h3.length
        rw [dif_neg (by simp only [List.size_toArray, ← this, List.length_cons]; omega)]
        exact ⟨xs.toArray, rfl, by simpa using h3⟩
  obtain ⟨x, hx, hxv⟩ := hres
  obtain ⟨l1, g2, l2, l3, l4, l5⟩ := leaveV_sound (v1 := (leaveV C k n0 (packV vs) st2).1) (st1 := (leaveV C k n0 (packV vs) st2).2) e2 k n0 hxv rfl
  exact ⟨x, hx, _, _, g2, hQ, l1, l2, l3, l4, l5⟩

/-- What a call that was put off leaves. -/
structure FnD (C : Cfg) (k : FuncId) (args : List V) (st : St) (Q : St → Prop) : Prop where
  ex : COk C → GlobPure C → XOk C → (∃ fn, C.P.funcs[k]? = some fn ∧ fn.body.isSome = true) ∧
    ∀ (g : Ghost) (w0 : W0) (base : Nat) (w : World) (args' : Array Value), GR g st w0 base w → GlobR C g w0 base → VRl g args args'.toList →
      CallsD C.P k args' .returning w fun e u w' => u = .returning ∧ ∃ v' st' g', e = .returned v' ∧ Q st' ∧ st.n ≤ st'.n ∧ Ext st.n g g' ∧ GR g' st' w0 base w'

theorem codeOk_of (hC : COk C) {k : FuncId} {fn : Func} {c : Code} (hfn : C.P.funcs[k]? = some fn) (hb : fn.body = some c) : codeOk fn.ntmps c = true := by
  have := hC.funcs
  have := List.all_eq_true.1 this fn (by rw [← Array.getElem?_toList] at hfn; exact List.mem_of_getElem? hfn)
  simp only [funcOk, hb, Bool.and_eq_true] at this; exact this.1

theorem FnD.of {k : FuncId} {fn : Func} {c : Code} {args : List V} {st : St} {Q : St → Prop} (hf : C.P.funcs[k]? = some fn) (hb : fn.body = some c) (hl : decide (args.length ≤ fn.ntmps) = true)
    (h : Ev C c ⟨frame0 fn.ntmps args, []⟩ st (Lv C fn k st.n fun _ st' => Q st')) : FnD C k args st Q := by
  refine ⟨fun hC hP hX => ⟨⟨fn, hf, by rw [hb]; rfl⟩, fun g w0 base w args' hG hgl hargs => ?_⟩⟩
  have hal := hargs.length
  have hl := of_decide_eq_true hl
  simp only [Array.length_toList] at hal
  refine (callsD_of_wp hf hb (R := fun e w' => ∃ v' st' g', e = .returned v' ∧ Q st' ∧ st.n ≤ st'.n ∧ Ext st.n g g' ∧ GR g' st' w0 base w') (wp_mono (h.ex hC hP hX (codeOk_of hC hf hb) hG hgl (FR_init hargs _ _) (by simp; omega)) ?_))
  rintro x a w' ⟨e, f', st2, ⟨g1, hx, e1, e2, e3, e4⟩, hn, hq⟩
  subst hx
  have key : f'.d = [] → ∀ vs, resultsV C st2.H f'.t fn.results.toList = some vs → Q (leaveV C k st.n (packV vs) st2).2 →
      a.defers = [] ∧ ∃ v', (results fn a.tmps).run C.P w' = .ok v' w' ∧ ∃ v'' st' g', Ending.returned v' = .returned v'' ∧ Q st' ∧ st.n ≤ st'.n ∧ Ext st.n g g' ∧ GR g' st' w0 base w' := by
    intro hd vs hvs hQ
    have hdef : a.defers = [] := by
      have := e3.d
      rw [hd] at this
      generalize a.defers = ds at this
      cases this; rfl
    obtain ⟨v', h1, v, st', g', h2, h3, h4, h5, h6, h7⟩ := results_sound (Q := fun _ st' => Q st') hC e2 e3.t hvs hQ
    exact ⟨hdef, v', h1, v', st', g', rfl, h2, by rw [h3]; exact hn, ⟨e1.le.trans h4, fun i hi => ⟨(h5 i).1.trans (e1.old i hi).1, (h5 i).2.trans (e1.old i hi).2⟩⟩, h7⟩
  cases e
  case normal => obtain ⟨hd, vs, h1, h2⟩ := hq; exact key hd vs h1 h2
  case ret => obtain ⟨hd, vs, h1, h2⟩ := hq; exact key hd vs h1 h2
  all_goals exact hq.elim

/-- The calls that were put off, and the answer. -/
def LvD (C : Cfg) (fn : Func) (k : FuncId) (n0 : Nat) (Q : V → St → Prop) (t : List (Nat × V)) : List (V × List V) → St → Prop
  | [], st => ∃ vs, resultsV C st.H t fn.results.toList = some vs ∧ Q (leaveV C k n0 (packV vs) st).1 (leaveV C k n0 (packV vs) st).2
  | (.func (.func j) [] ca, args) :: ds, st => FnD C j (args ++ ca) st fun st' => LvD C fn k n0 Q t ds st'
  | _ :: _, _ => False

theorem leavesD (hC : COk C) (hP : GlobPure C) (hX : XOk C) {fn : Func} {k : FuncId} {n0 : Nat} {Q : V → St → Prop} {t : List (Nat × V)} {tmps : Array Value} {w0 : W0} {base : Nat} {g0 : Ghost} {R : Ending → World → Prop}
    (hR : ∀ v st' v' g' w', Q v st' → n0 ≤ st'.n → Ext n0 g0 g' → VR g' v v' → GR g' st' w0 base w' → R (.returned v') w') :
    ∀ (ds : List (V × List V)) {defs : List Deferred} {g : Ghost} {st : St} {w : World}, DR g ds defs → Ext n0 g0 g → n0 ≤ st.n → GR g st w0 base w → GlobR C g w0 base → (∀ i, VR g (tget t i) (tmps.getD i undef)) → LvD C fn k n0 Q t ds st →
      Leaves C.P fn tmps R defs .returning w := by
  intro ds
  induction ds with
  | nil =>
    intro defs g st w hd he hn hG hgl ht h
    cases hd
    obtain ⟨vs, h1, h2⟩ := h
    obtain ⟨v', k1, v, st', g', k2, k3, k4, k5, k6, k7⟩ := results_sound hC hG ht h1 h2
    exact ⟨v', k1, hR v st' v' g' w k2 (by rw [k3]; exact hn) ⟨he.le.trans k4, fun i hi => ⟨(k5 i).1.trans (he.old i hi).1, (k5 i).2.trans (he.old i hi).2⟩⟩ k6 k7⟩
  | cons d ds ih =>
    intro defs g st w hd he hn hG hgl ht h
    cases hd with
    | @cons j ca args d' _ ds' ca' h1 h2 h3 h4 =>
      have h : FnD C j (args ++ ca) st fun st' => LvD C fn k n0 Q t ds st' := h
      obtain ⟨⟨fn', hf1, hf2⟩, hcall⟩ := h.ex hC hP hX
      obtain ⟨tg, dargs⟩ := d'
      simp only at h1 h3
      subst h1
      refine leaves_cons (by simp) (f := j) (args := dargs ++ ca') ?_ ((hcall g w0 base w (dargs ++ ca') hG hgl (by rw [Array.toList_append]; exact h3.append h2)).mono ?_)
      · simp only [invoke, run_callFunc hC hf1 hf2]
      · rintro e u w' ⟨rfl, v', st', g', rfl, hq, hn', hext, hG'⟩
        exact ih (h4.mono hext.le) (he.trans hext hn) (Nat.le_trans hn hn') hG' (hgl.mono hext.le) (fun i => (ht i).mono hext.le) hq

/-- A function that puts calls off. -/
theorem Fn.ofD {k : FuncId} {fn : Func} {c : Code} {args : List V} {st : St} {Q : V → St → Prop} (hf : C.P.funcs[k]? = some fn) (hb : fn.body = some c) (hl : decide (args.length ≤ fn.ntmps) = true)
    (h : Ev C c ⟨frame0 fn.ntmps args, []⟩ st (fun e f' st' => (e = .normal ∨ e = .ret) ∧ LvD C fn k st.n Q f'.t f'.d st')) : Fn C k args st Q := by
  refine ⟨fun hC hP hX => ⟨⟨fn, hf, by rw [hb]; rfl⟩, fun g w0 base w args' hG hgl hargs => ?_⟩⟩
  have hal := hargs.length
  have hl := of_decide_eq_true hl
  simp only [Array.length_toList] at hal
  refine calls_of_wp_defers hf hb (wp_mono (h.ex hC hP hX (codeOk_of hC hf hb) hG hgl (FR_init hargs _ _) (by simp; omega)) ?_)
  rintro x a w' ⟨e, f', st2, ⟨g1, hx, e1, e2, e3, e4⟩, hn, he, hq⟩
  subst hx
  have key := leavesD hC hP hX (R := fun e w' => ∃ v st' v' g', Q v st' ∧ st.n ≤ st'.n ∧ e = .returned v' ∧ Ext st.n g g' ∧ VR g' v v' ∧ GR g' st' w0 base w')
    (fun v st' v' g' w' q1 q2 q3 q4 q5 => ⟨v, st', v', g', q1, q2, rfl, q3, q4, q5⟩) f'.d e3.d e1 hn e2 (hgl.mono e1.le) e3.t hq
  rcases he with rfl | rfl
  · exact key
  · exact key
end
end Go.Vm
/- Known functions, one by one. -/
namespace Go.Vm
open Go Go.RowKit

/-- A call that leaves the memory as it is, by what it may answer. -/
theorem AC.ofFn {C C' : Cfg} (hP : C'.P = C.P) (hg : C'.glob = C.glob) (hI : C'.I = C.I) (hlo : C'.lo = C.lo) (hC : COk C) (hp : GlobPure C) (hX : XOk C) {k : FuncId} {args : List V} {st : St} {v : V} (h : Fn C k args st fun v1 st1 => v1 = v ∧ st1 = st) : AC C' k args st v st := by
  obtain ⟨h1, h2⟩ := h.ex hC hp hX
  refine ⟨Nat.le_refl _, by rw [hP]; exact h1, fun g w0 base w args' hG hgl ha => ?_⟩
  rw [hP]
  refine (h2 g w0 base w args' hG ⟨fun i => by rw [← hg]; exact hgl.vr i, by rw [← hI]; exact hgl.inv, by rw [← hlo]; exact hgl.lo⟩ ha).mono ?_
  rintro e w' ⟨v1, st1, v', g', ⟨rfl, rfl⟩, _, he, hext, hv, hG'⟩
  exact ⟨v', g', he, hext, hv, hG'⟩

theorem XOk.none {C : Cfg} (h : ∀ k args st, C.X k args st = none) : XOk C := fun k args st v st' hx => by rw [h] at hx; cases hx

/-- A slice of which nothing is known, held against nil. -/
theorem sNil {C : Cfg} {ops : Array Oper} {t : List (Nat × V)} {dd : List (V × List V)} {st : St} {Q : Fr → St → Prop} {d : Tmp} {type : TypeId} {pos : String} {after : Array Edge} {rest : List Oper} {op : BinOp} {ty e yt : TypeId} {x y : Operand} {tip : Tip} {xs : List V}
    (hu : C.P.underlying ty = some (.slice e)) (hx : evalO C ⟨t, dd⟩ x = .sl tip xs) (hy : isNilSl y = true) (ho : op = .eql ∨ op = .neq)
    (h : ∀ b, EvOps C ops rest ⟨tset t d (.bool b), dd⟩ st Q) : EvOps C ops ({ dst := some d, op := .binOp op ty x y yt, type := type, pos := pos, after := after, guard := none } :: rest) ⟨t, dd⟩ st Q := EvOps.nilSl hy hu ho hx h

end Go.Vm
/- Memory that is written no more; contracts of one configuration in another. -/
namespace Go.Vm
open Go Go.RowKit
section
variable {C : Cfg} {c : Code} {f : Fr} {st : St} {Q : Ex → Fr → St → Prop}

/-- A contract speaks of the program and its variables alone. -/
theorem Fn.tr {C C' : Cfg} {k : FuncId} {args : List V} {st : St} {Q : V → St → Prop} (h : Fn C k args st Q) (hc : COk C) (hp : GlobPure C) (hx : XOk C) (e1 : C'.P = C.P) (e2 : C'.glob = C.glob) (e3 : C'.I = C.I) (e4 : C'.lo = C.lo) : Fn C' k args st Q :=
  ⟨fun _ _ _ => by
    obtain ⟨a, b⟩ := h.ex hc hp hx
    refine ⟨by rw [e1]; exact a, fun g w0 base w args' hg hgl ha => ?_⟩
    rw [e1]
    exact b g w0 base w args' hg ⟨fun i => by rw [← e2]; exact hgl.vr i, by rw [← e3]; exact hgl.inv, by rw [← e4]; exact hgl.lo⟩ ha⟩

/-- A frame, all of whose own memory is frozen. -/
def frzF (n0 : Nat) (H : List (Nat × Ob)) (t : List (Nat × V)) : List (Nat × V) := t.map fun p => (p.1, frz n0 H 1 p.2)
theorem tget_frzF (n0 : Nat) (H : List (Nat × Ob)) : ∀ (t : List (Nat × V)) (i : Nat), tget (frzF n0 H t) i = frz n0 H 1 (tget t i)
  | [], i => rfl
  | (j, v) :: r, i => by
    simp only [frzF, List.map_cons, tget]
    split
    · rfl
    · exact tget_frzF n0 H r i

theorem Ev.freeze (n0 : Nat) (H' : List (Nat × Ob)) (hs : H'.Sublist st.H) (hp : ∀ p ∈ H', p.1 < n0 ∨ ∃ sz, p.2 = .tip sz) (h : Ev C c ⟨frzF n0 st.H f.t, f.d⟩ ⟨H', st.n⟩ Q) : Ev C c f st Q :=
  ⟨fun hC hP hX N w0 base g w a hc hG hgl hf hN => by
    obtain ⟨h1, h2, h3⟩ := hG.freeze n0
    have := h.ex hC hP hX hc (h3 H' hs hp) (hgl.mono h1) ⟨fun i => by rw [tget_frzF]; exact VR.frz h1 h2 1 _ _ (hf.t i), hf.d.mono h1⟩ hN
    exact wp_mono this fun x a w hx => hx.up ⟨h1, fun i _ => ⟨rfl, rfl⟩⟩ (Nat.le_refl _)⟩
theorem EvOps.freeze {ops : Array Oper} {l : List Oper} {Q : Fr → St → Prop} (n0 : Nat) (H' : List (Nat × Ob)) (hs : H'.Sublist st.H) (hp : ∀ p ∈ H', p.1 < n0 ∨ ∃ sz, p.2 = .tip sz) (h : EvOps C ops l ⟨frzF n0 st.H f.t, f.d⟩ ⟨H', st.n⟩ Q) : EvOps C ops l f st Q :=
  ⟨fun hC hP hX N w0 base g w a hc hd hG hgl hf hN R hR => by
    obtain ⟨h1, h2, h3⟩ := hG.freeze n0
    refine h.ex hC hP hX hc hd (h3 H' hs hp) (hgl.mono h1) ⟨fun i => by rw [tget_frzF]; exact VR.frz h1 h2 1 _ _ (hf.t i), hf.d.mono h1⟩ hN R fun f' st' g' a' w' q1 q2 q3 q4 q5 q6 => ?_
    exact hR f' st' g' a' w' q1 q2 (Ext.trans ⟨h1, fun i _ => ⟨rfl, rfl⟩⟩ q3 (Nat.le_refl _)) q4 q5 q6⟩
end
end Go.Vm
/- The evaluator, with calls that are put off. -/
namespace Go.Vm
open Go Go.RowKit
section
variable (C : Cfg)
/-- Calls that were put off, the last one first. -/
def deferV (K : FuncId → List V → St → Option (V × St)) (n : Nat) : List (V × List V) → St → Option St
  | [], st => .some st
  | (.func (.func j) [] ca, args) :: ds, st =>
    match C.P.funcs[j]? with
    | .none => .none
    | .some fn =>
      match fn.body with
      | .none => .none
      | .some c =>
        if decide ((args ++ ca).length ≤ fn.ntmps) = true then
          match exec C K n c ⟨frame0 fn.ntmps (args ++ ca), []⟩ st with
          | .some (e, f', st2) =>
            if (e = .normal ∨ e = .ret) ∧ f'.d.isEmpty = true then
              match resultsV C st2.H f'.t fn.results.toList with
              | .some vs => deferV K n ds (leaveV C j st.n (packV vs) st2).2
              | .none => .none
            else .none
          | .none => .none
        else .none
  | _ :: _, _ => .none

def bodyG (K : FuncId → List V → St → Option (V × St)) (n : Nat) (k : FuncId) (args : List V) (st : St) : Option (V × St) :=
  match C.P.funcs[k]? with
  | .none => .none
  | .some fn =>
    match fn.body with
    | .none => .none
    | .some c =>
      if decide (args.length ≤ fn.ntmps) = true then
        match exec C K n c ⟨frame0 fn.ntmps args, []⟩ st with
        | .some (e, f', st') =>
          if e = .normal ∨ e = .ret then
            match deferV C K n f'.d st' with
            | .some st2 =>
              match resultsV C st2.H f'.t fn.results.toList with
              | .some vs => .some (leaveV C k st.n (packV vs) st2)
              | .none => .none
            | .none => .none
          else .none
        | .none => .none
      else .none

/-- A call. -/
def callG : Nat → FuncId → List V → St → Option (V × St)
  | 0, _, _, _ => .none
  | n + 1, k, args, st =>
    match C.X k args st with
    | .some r => .some r
    | .none =>
      if C.pure k = true then
        if pureVs (args.map unown) = true then
          match bodyG C (callG n) n k (args.map unown) ⟨[], 0⟩ with
          | .some (v, _) => if pureV v = true then .some (v, st) else .none
          | .none => .none
        else .none
      else bodyG C (callG n) n k args st
end
section
variable {C : Cfg} {K : FuncId → List V → St → Option (V × St)}
theorem Ev.ofExec (hK : COk C → GlobPure C → XOk C → KOk C K) {n : Nat} {c : Code} {f f' : Fr} {st st' : St} {e : Ex} {Q : Ex → Fr → St → Prop} (h : exec C K n c f st = some (e, f', st')) (hq : Q e f' st') : Ev C c f st Q :=
  ⟨fun hC hP hX N w0 base g w a hc hG hgl hf hN => wp_mono ((exec_sound hC (hK hC hP hX) n).1 h hc hG hgl hf hN) fun x a w hx => ⟨e, f', st', hx, (exec_n (hK hC hP hX) n).1 h, hq⟩⟩

theorem deferV_sound (hK : COk C → GlobPure C → XOk C → KOk C K) {n : Nat} {fn : Func} {k : FuncId} {n0 : Nat} {Q : V → St → Prop} {t : List (Nat × V)} : ∀ (ds : List (V × List V)) {st st' : St}, deferV C K n ds st = some st' → LvD C fn k n0 Q t [] st' → LvD C fn k n0 Q t ds st := by
  intro ds
  induction ds with
  | nil => intro st st' h hq; simp only [deferV, Option.some.injEq] at h; subst h; exact hq
  | cons d ds ih =>
    intro st st' h hq
    unfold deferV at h
    split at h
    · rename_i heq; cases heq
    · rename_i st1 j ca args ds2 heq
      cases heq
      split at h
      · cases h
      rename_i fn2 hf
      split at h
      · cases h
      rename_i c hb
      split at h
      rotate_left
      · cases h
      rename_i hl
      split at h
      rotate_left
      · cases h
      rename_i e f' st3 hex
      split at h
      rotate_left
      · cases h
      rename_i he
      split at h
      rotate_left
      · cases h
      rename_i vs hvs
      show FnD C j (args ++ ca) _ fun st' => LvD C fn k n0 Q t ds st'
      refine FnD.of hf hb hl (Ev.ofExec hK hex ?_)
      have hd : f'.d = [] := by simpa using he.2
      rcases he.1 with rfl | rfl
      · exact ⟨hd, vs, hvs, ih h hq⟩
      · exact ⟨hd, vs, hvs, ih h hq⟩
    · cases h

theorem bodyG_fn (hK : COk C → GlobPure C → XOk C → KOk C K) {n : Nat} {k : FuncId} {args : List V} {st st' : St} {v : V} (h : bodyG C K n k args st = some (v, st')) : Fn C k args st fun v1 st1 => v1 = v ∧ st1 = st' := by
  unfold bodyG at h
  split at h
  · cases h
  rename_i fn hf
  split at h
  · cases h
  rename_i c hb
  split at h
  rotate_left
  · cases h
  rename_i hl
  split at h
  rotate_left
  · cases h
  rename_i e f' st1 hex
  split at h
  rotate_left
  · cases h
  rename_i he
  split at h
  rotate_left
  · cases h
  rename_i st2 hds
  split at h
  rotate_left
  · cases h
  rename_i vs hvs
  have h : leaveV C k st.n (packV vs) st2 = (v, st') := Option.some.inj h
  refine Fn.ofD hf hb hl (Ev.ofExec hK hex ⟨he, deferV_sound hK f'.d hds ⟨vs, hvs, ?_, ?_⟩⟩)
  · rw [h]
  · rw [h]

theorem leaveV_n (k : FuncId) (n0 : Nat) (v : V) (st : St) : (leaveV C k n0 v st).2.n = st.n := by
  unfold leaveV
  dsimp only
  split
  · rfl
  · split
    · split <;> rfl
    · rfl

theorem deferV_n (hK : KOk C K) {n : Nat} : ∀ (ds : List (V × List V)) {st st' : St}, deferV C K n ds st = some st' → st.n ≤ st'.n := by
  intro ds
  induction ds with
  | nil => intro st st' h; simp only [deferV, Option.some.injEq] at h; subst h; exact Nat.le_refl _
  | cons d ds ih =>
    intro st st' h
    unfold deferV at h
    split at h
    · rename_i heq; cases heq
    · rename_i st1 j ca args ds2 heq
      cases heq
      split at h
      · cases h
      split at h
      · cases h
      split at h
      rotate_left
      · cases h
      split at h
      rotate_left
      · cases h
      rename_i e f' st3 hex
      split at h
      rotate_left
      · cases h
      split at h
      rotate_left
      · cases h
      have h1 := (exec_n hK n).1 hex
      have h2 := ih h
      rw [leaveV_n] at h2
      omega
    · cases h

theorem bodyG_n (hK : KOk C K) {n : Nat} {k : FuncId} {args : List V} {st st' : St} {v : V} (h : bodyG C K n k args st = some (v, st')) : st.n ≤ st'.n := by
  unfold bodyG at h
  split at h
  · cases h
  split at h
  · cases h
  split at h
  rotate_left
  · cases h
  split at h
  rotate_left
  · cases h
  rename_i e f' st1 hex
  split at h
  rotate_left
  · cases h
  split at h
  rotate_left
  · cases h
  rename_i st2 hds
  split at h
  rotate_left
  · cases h
  rename_i vs hvs
  have h : leaveV C k st.n (packV vs) st2 = (v, st') := Option.some.inj h
  have h1 := (exec_n hK n).1 hex
  have h2 := deferV_n hK _ hds
  have h3 := leaveV_n (C := C) k st.n (packV vs) st2
  rw [h] at h3
  simp only at h3
  omega

theorem bodyG_ac (hC : COk C) (hP : GlobPure C) (hX : XOk C) (hK : KOk C K) {n : Nat} {k : FuncId} {args : List V} {st st' : St} {v : V} (h : bodyG C K n k args st = some (v, st')) : AC C k args st v st' := by
  obtain ⟨h1, h2⟩ := (bodyG_fn (fun _ _ _ => hK) h).ex hC hP hX
  refine ⟨bodyG_n hK h, h1, fun g w0 base w args' hG hgl ha => (h2 g w0 base w args' hG hgl ha).mono ?_⟩
  rintro e w' ⟨v1, st1, v', g', ⟨rfl, rfl⟩, _, he, hext, hv, hG'⟩
  exact ⟨v', g', he, hext, hv, hG'⟩

theorem callG_sound (hC : COk C) (hP : GlobPure C) (hX : XOk C) : ∀ n, KOk C (callG C n) := by
  intro n
  induction n with
  | zero => intro k args st v st' h; simp [callG] at h
  | succ n ih =>
    intro k args st v st' h
    simp only [callG] at h
    split at h
    · rename_i r hr
      cases h
      exact hX _ _ _ _ _ hr
    · split at h
      · split at h
        · rename_i ha
          split at h
          · rename_i v1 st1 hb
            split at h
            · rename_i hv
              cases h
              exact fresh_sound hC hP (bodyG_ac hC hP hX ih hb) ha hv _
            · cases h
          · cases h
        · cases h
      · exact bodyG_ac hC hP hX ih h

/-- What is evaluated is so. -/
theorem Fn.ofG {n : Nat} {k : FuncId} {args : List V} {st : St} {Q : V → St → Prop} {v : V} {st' : St} (h : callG C n k args st = some (v, st')) (hq : Q v st') : Fn C k args st Q :=
  ⟨fun hC hP hX => .of (callG_sound hC hP hX n _ _ _ _ _ h) hq⟩
end
end Go.Vm
/- What a call has made and nobody knows any more: its names may be given anew. -/
namespace Go.Vm
open Go Go.RowKit

def lowT (n : Nat) : Tip → Bool
  | .own t => decide (t < n)
  | _ => true
mutual
/-- A value knows no names from n on. -/
def lowV (n : Nat) : V → Bool
  | .ptr b _ => decide (b < n)
  | .cptr cs => lowL n cs
  | .sl tip xs => lowT n tip && lowL n xs
  | .msl b _ _ _ => decide (b < n)
  | .map b => decide (b < n)
  | .func _ fi ca => lowL n fi && lowL n ca
  | .iface _ x => lowV n x
  | .agg cs => lowL n cs
  | .tup xs => lowL n xs
  | _ => true
def lowL (n : Nat) : List V → Bool
  | [] => true
  | x :: xs => lowV n x && lowL n xs
end
def lowO (n : Nat) : Ob → Prop
  | .cells cs => lowL n cs = true
  | .map es => ∀ p ∈ es, lowV n p.1 = true ∧ lowV n p.2 = true
  | .pin es _ _ => ∀ p ∈ es, lowV n p.1 = true ∧ lowV n p.2 = true
  | .pin1 es ib => (∀ p ∈ es, lowV n p.1 = true ∧ lowV n p.2 = true) ∧ ib < n
  | .iter mb _ _ => mb < n
  | .iter1 mb _ => mb < n
  | _ => True
/-- A heap knows no names from n on. -/
def Low (n : Nat) (H : List (Nat × Ob)) : Prop := ∀ p ∈ H, p.1 < n ∧ lowO n p.2

section
variable {g : Ghost} {n : Nat}

end

/-! Heaps that know no names from n on. -/
theorem Low.nil {n : Nat} : Low n [] := fun p hp => by cases hp
theorem Low.cons {n i : Nat} {o : Ob} {H : List (Nat × Ob)} (h : Low n H) (hi : i < n) (ho : lowO n o) : Low n ((i, o) :: H) := fun p hp => by
  cases hp with
  | head => exact ⟨hi, ho⟩
  | tail _ hp => exact h p hp
theorem Low.set {n b : Nat} {o : Ob} {H : List (Nat × Ob)} (h : Low n H) (ho : lowO n o) : Low n (hset H b o) := by
  induction H with
  | nil => exact h
  | cons p r ih =>
    obtain ⟨i, x⟩ := p
    have hr : Low n r := fun p hp => h p (List.mem_cons_of_mem _ hp)
    have hi := h _ List.mem_cons_self
    simp only [hset]
    split
    · exact hr.cons hi.1 ho
    · exact (ih hr).cons hi.1 hi.2
theorem Low.lt {n b : Nat} {o : Ob} {H : List (Nat × Ob)} (h : Low n H) (hb : hget H b = some o) : b < n := (h _ (hget_mem hb)).1
mutual
theorem lowV.le {n m : Nat} (h : n ≤ m) : ∀ v : V, lowV n v = true → lowV m v = true
  | .any, l | .bool _, l | .int _ _, l | .str _, l | .nilptr, l | .nilmap, l | .nilfunc, l | .niliface, l => rfl
  | .ptr b _, l | .msl b _ _ _, l | .map b, l => by simp only [lowV, decide_eq_true_eq] at l ⊢; omega
  | .cptr cs, l | .agg cs, l | .tup cs, l => lowL.le h cs (by simpa [lowV] using l)
  | .sl tip xs, l => by
    have l' : lowT n tip = true ∧ lowL n xs = true := by simpa [lowV] using l
    have a := lowL.le h xs l'.2
    have b : lowT m tip = true := by
      cases tip <;> simp_all [lowT]; omega
    simp [lowV, a, b]
  | .func _ fi ca, l => by
    have l' : lowL n fi = true ∧ lowL n ca = true := by simpa [lowV] using l
    simp [lowV, lowL.le h fi l'.1, lowL.le h ca l'.2]
  | .iface _ x, l => lowV.le h x (by simpa [lowV] using l)
theorem lowL.le {n m : Nat} (h : n ≤ m) : ∀ vs : List V, lowL n vs = true → lowL m vs = true
  | [], _ => rfl
  | x :: xs, l => by
    have l' : lowV n x = true ∧ lowL n xs = true := by simpa [lowL] using l
    simp [lowL, lowV.le h x l'.1, lowL.le h xs l'.2]
end
theorem lowO.le {n m : Nat} (h : n ≤ m) {o : Ob} (l : lowO n o) : lowO m o := by
  cases o with
  | cells cs => exact lowL.le h cs l
  | map es => exact fun p hp => ⟨lowV.le h _ (l p hp).1, lowV.le h _ (l p hp).2⟩
  | pin es bs ck => exact fun p hp => ⟨lowV.le h _ (l p hp).1, lowV.le h _ (l p hp).2⟩
  | pin1 es ib => exact ⟨fun p hp => ⟨lowV.le h _ (l.1 p hp).1, lowV.le h _ (l.1 p hp).2⟩, Nat.lt_of_lt_of_le l.2 h⟩
  | iter mb s se => exact Nat.lt_of_lt_of_le l h
  | iter1 mb d => exact Nat.lt_of_lt_of_le l h
  | iter0 => trivial
  | tip sz => trivial
theorem Low.le {n m : Nat} {H : List (Nat × Ob)} (l : Low n H) (h : n ≤ m) : Low m H := fun p hp => ⟨Nat.lt_of_lt_of_le (l p hp).1 h, (l p hp).2.le h⟩
end Go.Vm
/- Heaps of which facts alone are known; ranges over maps of one entry, in walks. -/
namespace Go.Vm
open Go Go.RowKit

theorem hgN (H : List (Nat × Ob)) {a b : Nat} (o : Ob) (h : b ≠ a) : hget (hset H a o) b = hget H b := by rw [hget_hset, if_neg h]
theorem hgS (H : List (Nat × Ob)) {a : Nat} {o' : Ob} (o : Ob) (h : hget H a = some o') : hget (hset H a o) a = some o := by rw [hget_hset, if_pos rfl, h]; rfl
theorem hsS : ∀ (H : List (Nat × Ob)) (a : Nat) (x y : Ob), hset (hset H a x) a y = hset H a y
  | [], _, _, _ => rfl
  | (i, o) :: r, a, x, y => by
    by_cases h : i = a
    · subst h; simp [hset]
    · simp [hset, h, hsS r a x y]
theorem hsI : ∀ (H : List (Nat × Ob)) (a : Nat) (o : Ob), hget H a = some o → hset H a o = H
  | [], _, _, h => by cases h
  | (i, o') :: r, a, o, h => by
    by_cases hi : i = a
    · subst hi; simp [hget] at h; subst h; simp [hset]
    · simp [hget, hi] at h; simp [hset, hi, hsI r a o h]
theorem hdN : ∀ (H : List (Nat × Ob)) {a b : Nat}, b ≠ a → hget (hdel H a) b = hget H b
  | [], _, _, _ => rfl
  | (i, o) :: r, a, b, h => by
    by_cases hi : i = a
    · subst hi
      have : (i == b) = false := by simp; exact fun e => h e.symm
      simp [hdel, hget, this]
    · by_cases hb : i = b
      · subst hb; simp [hdel, hget, hi]
      · simp [hdel, hget, hi, hb, hdN r h]
theorem hwC {n i : Nat} (o : Ob) (H : List (Nat × Ob)) (h : n ≤ i) : hdrop n ((i, o) :: H) = hdrop n H := by simp [hdrop, h]
theorem hwK {n i : Nat} (o : Ob) (H : List (Nat × Ob)) (h : i < n) : hdrop n ((i, o) :: H) = (i, o) :: H := by simp [hdrop, Nat.not_le.2 h]
theorem hwS : ∀ (H : List (Nat × Ob)) {n a : Nat} (o : Ob), a < n → hdrop n (hset H a o) = hset (hdrop n H) a o
  | [], _, _, _, _ => rfl
  | (i, o') :: r, n, a, o, h => by
    by_cases hi : i = a
    · subst hi
      simp [hset, hdrop, Nat.not_le.2 h]
    · by_cases hn : n ≤ i
      · simp [hset, hdrop, hi, hn, hwS r o h]
      · simp [hset, hdrop, hi, hn]
theorem hdrop_of_lt : ∀ {H : List (Nat × Ob)} {n : Nat}, (∀ p ∈ H, p.1 < n) → hdrop n H = H
  | [], _, _ => rfl
  | (i, o) :: r, n, h => by
    have hi : i < n := h (i, o) List.mem_cons_self
    exact hwK o r hi
/-- What is known of heaps by facts alone. -/
theorem hpA : (∀ (H : List (Nat × Ob)) (a b : Nat) (o : Ob), b ≠ a → hget (hset H a o) b = hget H b) ∧ (∀ (H : List (Nat × Ob)) (a b : Nat), b ≠ a → hget (hdel H a) b = hget H b) ∧ (∀ (H : List (Nat × Ob)) (a : Nat) (x y : Ob), hset (hset H a x) a y = hset H a y) :=
  ⟨fun H a b o h => hgN H o h, fun H a b h => hdN H h, hsS⟩
theorem hpW : (∀ (n i : Nat) (o : Ob) (H : List (Nat × Ob)), n ≤ i → hdrop n ((i, o) :: H) = hdrop n H) ∧ (∀ (H : List (Nat × Ob)) (n a : Nat) (o : Ob), a < n → hdrop n (hset H a o) = hset (hdrop n H) a o) ∧ (∀ (n i : Nat) (o : Ob) (H : List (Nat × Ob)), i < n → hdrop n ((i, o) :: H) = (i, o) :: H) :=
  ⟨fun n i o H h => hwC o H h, fun H n a o h => hwS H o h, fun n i o H h => hwK o H h⟩

/-- New memory that was made early is still as it was made. -/
theorem stillA {C : Cfg} {f : Fr} {st : St} {ol : List Oper} {i m : Nat} {o : Oper} {d : Tmp} {cs : List V} (ho : ol[i]? = some o) (hw : wantedV f ol.toArray o = some true) (hd : o.dst = some d) (hq : rdOp C st.H (evalO C f) o.op = none) (ht : tget f.t d = .ptr m 0)
    (ha : alOp C m (evalO C f) o.op = some (.ptr m 0, some (.cells cs))) (hg : hget st.H m = some (.cells cs)) : stillOk C f st ol.toArray i = true := by
  unfold stillOk
  simp only [toA ho, hw, hd, hq, ht, ha, hg]
  rw [sameV_refl, sameOb_refl_cells]; rfl
section
variable {C : Cfg} {ops : Array Oper} {t : List (Nat × V)} {dd : List (V × List V)} {st : St} {Q : Fr → St → Prop} {d : Tmp} {type : TypeId} {pos : String} {after : Array Edge} {rest : List Oper}
/-- A slice of so many elements. -/
theorem mkS {ty e s n m : Nat} {l c : Operand} {H : List (Nat × Ob)} {zs : List V} {k : IntKind} (hl : evalO C ⟨t, dd⟩ l = .int k (m : Int)) (hc : evalO C ⟨t, dd⟩ c = .int k (m : Int)) (hu : C.P.underlying ty = some (.slice e))
    (hs : szOf C e = some s) (hz : (zeroV C e).bind cellsOf = some zs) (h1 : 0 < s) (h2 : zs.length = s) (h3 : m * byOf C e ≤ 2 ^ 47) (h4 : m < 2 ^ 62)
    (h : EvOps C ops rest ⟨tset t d (.msl n 0 m m), dd⟩ ⟨(n, .cells (List.replicate m zs).flatten) :: H, n + 1⟩ Q) :
    EvOps C ops ({ dst := some d, op := .makeSlice ty l c, type := type, pos := pos, after := after, guard := none } :: rest) ⟨t, dd⟩ ⟨H, n⟩ Q := sQ (qMake hu hl hc hs hz h1 h2 h3 h4) h
/-- A range over a map of one entry at most. -/
theorem rngS {ty ke el : TypeId} {x : Operand} {mb n : Nat} {H : List (Nat × Ob)} {es : List (V × V)} (hu : C.P.underlying ty = some (.map ke el)) (hx : evalO C ⟨t, dd⟩ x = .map mb) (hm : hget H mb = some (.map es)) (hl : es.length ≤ 1)
    (h : EvOps C ops rest ⟨tset t d (.ptr n 0), dd⟩ ⟨(n, .iter1 mb false) :: hset H mb (.pin1 es n), n + 1⟩ Q) :
    EvOps C ops ({ dst := some d, op := .range ty x, type := type, pos := pos, after := after, guard := none } :: rest) ⟨t, dd⟩ ⟨H, n⟩ Q := by
  refine EvOps.wrS rfl fun _ _ _ => .wr ?_ h
  show rangeV C ⟨H, n⟩ ty (evalO C ⟨t, dd⟩ x) = _
  rw [hx]
  have : hgetM H mb = some es := by unfold hgetM; rw [hm]; rfl
  simp only [rangeV, hu, this]
  rw [if_pos hl]
theorem nxt1 {it : Operand} {ib mb n : Nat} {H : List (Nat × Ob)} {e1 e2 : V} (hi : evalO C ⟨t, dd⟩ it = .ptr ib 0) (h1 : hget H ib = some (.iter1 mb false)) (h2 : hget H mb = some (.pin1 [(e1, e2)] ib))
    (h : EvOps C ops rest ⟨tset t d (.tup [.bool true, e1, e2]), dd⟩ ⟨hset H ib (.iter1 mb true), n⟩ Q) :
    EvOps C ops ({ dst := some d, op := .next it false, type := type, pos := pos, after := after, guard := none } :: rest) ⟨t, dd⟩ ⟨H, n⟩ Q := by
  refine EvOps.wrS rfl fun _ _ _ => .wr ?_ h
  show nextV ⟨H, n⟩ (evalO C ⟨t, dd⟩ it) = _
  rw [hi]
  simp only [nextV, h1, h2, if_true]
theorem nxt0 {it : Operand} {ib mb n : Nat} {H : List (Nat × Ob)} {es : List (V × V)} (hi : evalO C ⟨t, dd⟩ it = .ptr ib 0) (h1 : hget H ib = some (.iter1 mb true)) (h2 : hget H mb = some (.pin1 es ib))
    (h : EvOps C ops rest ⟨tset t d (.tup [.bool false]), dd⟩ ⟨hset H mb (.map es), n⟩ Q) :
    EvOps C ops ({ dst := some d, op := .next it false, type := type, pos := pos, after := after, guard := none } :: rest) ⟨t, dd⟩ ⟨H, n⟩ Q := by
  refine EvOps.wrS rfl fun _ _ _ => .wr ?_ h
  show nextV ⟨H, n⟩ (evalO C ⟨t, dd⟩ it) = _
  rw [hi]
  simp only [nextV, h1, h2, if_true]
theorem ent1 {it : Operand} {ib mb n : Nat} {H : List (Nat × Ob)} {e1 e2 : V} (hi : evalO C ⟨t, dd⟩ it = .ptr ib 0) (h1 : hget H ib = some (.iter1 mb true)) (h2 : hget H mb = some (.pin1 [(e1, e2)] ib))
    (h : EvOps C ops rest ⟨tset t d (.tup [e1, e2]), dd⟩ ⟨H, n⟩ Q) :
    EvOps C ops ({ dst := some d, op := .entry it, type := type, pos := pos, after := after, guard := none } :: rest) ⟨t, dd⟩ ⟨H, n⟩ Q := by
  refine EvOps.wrS rfl fun _ _ _ => .wr ?_ h
  show entryV ⟨H, n⟩ (evalO C ⟨t, dd⟩ it) = _
  rw [hi]
  simp only [entryV, h1, h2, if_true]
end
end Go.Vm
/- Arguments without slices: nothing to forget of them. -/
namespace Go.Vm
open Go Go.RowKit

/-- Types of numbers, texts, and structs of them. -/
def flatOk (P : Program) (T : List TypeId) : Bool := T.all fun t =>
  match P.underlying t with
  | some .bool | some (.int _) | some .string => true
  | some (.struct fs) => fs.toList.all fun f => T.contains f.type
  | some (.array _ e) => T.contains e
  | _ => false
theorem cat_strip {P : Program} {p : TypeId → List V → Prop} : ∀ {ts : List TypeId} {vs : List V}, (∀ t ∈ ts, ∀ vs, p t vs → vs.map stripCell = vs) → Cat P p ts vs → vs.map stripCell = vs
  | [], vs, _, h => by obtain rfl : vs = [] := h; rfl
  | t :: ts, vs, hp, h => by
    obtain ⟨a, b, rfl, _, h1, h2⟩ := h
    rw [List.map_append, hp t List.mem_cons_self a h1, cat_strip (fun t ht => hp t (List.mem_cons_of_mem _ ht)) h2]
theorem cat_len {P : Program} {F : TypeId → List V → Prop} : ∀ {ts : List TypeId} {vs : List V}, Cat P F ts vs → vs.length = (ts.map P.cellsOf).sum
  | [], vs, h => by obtain rfl : vs = [] := h; rfl
  | t :: ts, vs, h => by
    obtain ⟨a, b, rfl, h1, _, h2⟩ := h
    simp only [List.length_append, h1, cat_len h2, List.map_cons, List.sum_cons]
theorem wf_flat {P : Program} {T : List TypeId} (hT : flatOk P T = true) {r : Nat} : ∀ (n : Nat) (t : TypeId) (vs : List V), t ∈ T → Wf P r n t vs → vs.map stripCell = vs
  | 0, _, _, _, h => h.elim
  | n + 1, t, vs, ht, h => by
    have h1 := List.all_eq_true.1 hT t ht
    unfold Wf at h
    cases hu : P.underlying t with
    | none => simp [hu] at h1
    | some d =>
      rw [hu] at h1 h
      cases d <;> simp only at h h1 <;> (try cases h1)
      · obtain ⟨b, rfl⟩ := h; rfl
      · obtain ⟨i, rfl, _⟩ := h; rfl
      · obtain ⟨s, rfl, _⟩ := h; rfl
      · refine cat_strip (fun u hu vs hw => wf_flat hT n u vs ?_ hw) h
        have := List.eq_of_mem_replicate hu
        subst this
        simpa using h1
      · refine cat_strip (fun u hu vs hw => wf_flat hT n u vs ?_ hw) h
        have h1 := List.all_eq_true.1 h1
        obtain ⟨f, hf, rfl⟩ := List.mem_map.1 hu
        simpa using h1 f hf
end Go.Vm
