/- Calls that are put off. -/
import Derived.Test.YtfjhanjpacghkaaN26
import Derived.Defers
set_option linter.unusedSimpArgs false
set_option linter.unusedVariables false
namespace Go.Vm
open Go Go.RowKit

section
variable {C : Cfg}

/-- What is told of the answer of a body that has ended. -/
theorem results_sound (hC : COk C) {fn : Func} {k : FuncId} {n0 : Nat} {Q : V → St → Prop} {g1 : Ghost} {st2 : St} {w0 : W0} {base : Nat} {w' : World} {t : List (Nat × V)} {tmps : Array Value} (e2 : GR g1 st2 w0 base w') (ht : ∀ i, VR g1 (tget t i) (tmps.getD i undef)) {vs : List V}
    (hvs : resultsV C st2.H t fn.results.toList = some vs) (hQ : Q (leaveV C k n0 (packV vs) st2).1 (leaveV C k n0 (packV vs) st2).2) :
    ∃ v', (results fn tmps).run C.P w' = .ok v' w' ∧ ∃ v st' g', Q v st' ∧ st'.n = st2.n ∧ g1.le g' ∧ (∀ i, g'.κ i = g1.κ i ∧ g'.θ i = g1.θ i) ∧ VR g' v v' ∧ GR g' st' w0 base w' := by
  obtain ⟨xs, h2, h3⟩ := resultsV_sound hC e2 ht _ hvs
  have hres : ∃ x, (results fn tmps).run C.P w' = .ok x w' ∧ VR g1 (packV vs) x := by
    refine ⟨if h : xs.toArray.size = 1 then xs.toArray[0] else .tuple xs.toArray, ?_, ?_⟩
    · unfold results
      rw [show fn.results = fn.results.toList.toArray from rfl, List.mapM_toArray]
      simp only [Sem.run_bind, Sem.run_map]
      rw [h2 _ (fun _ => rfl) (fun _ _ => rfl)]
      simp
    · match vs, h3 with
      | [], h3 => simp only [VRl] at h3; subst h3; exact ⟨#[], rfl, rfl⟩
      | [v], h3 =>
        obtain ⟨u, r, e, hu, hr⟩ := h3
        simp only [VRl] at hr
        subst hr; subst e
        exact hu
      | a :: b :: vs, h3 =>
        have := h3.length
        rw [dif_neg (by simp only [List.size_toArray, ← this, List.length_cons]; omega)]
        exact ⟨xs.toArray, rfl, by simpa using h3⟩
  obtain ⟨x, hx, hxv⟩ := hres
  obtain ⟨l1, g2, l2, l3, l4, l5⟩ := leaveV_sound (v1 := (leaveV C k n0 (packV vs) st2).1) (st1 := (leaveV C k n0 (packV vs) st2).2) e2 k n0 hxv rfl
  exact ⟨x, hx, _, _, g2, hQ, l1, l2, l3, l4, l5⟩

/-- What a call that was put off leaves. -/
structure FnD (C : Cfg) (k : FuncId) (args : List V) (st : St) (Q : St → Prop) : Prop where
  ex : COk C → GlobPure C → XOk C → (∃ fn, C.P.funcs[k]? = some fn ∧ fn.body.isSome = true) ∧
    ∀ (g : Ghost) (w0 : W0) (base : Nat) (w : World) (args' : Array Value), GR g st w0 base w → GlobR C g w0 base → VRl g args args'.toList →
      CallsD C.P k args' .returning w fun e u w' => u = .returning ∧ ∃ v' st' g', e = .returned v' ∧ Q st' ∧ st.n ≤ st'.n ∧ Ext st.n g g' ∧ GR g' st' w0 base w'

theorem codeOk_of (hC : COk C) {k : FuncId} {fn : Func} {c : Code} (hfn : C.P.funcs[k]? = some fn) (hb : fn.body = some c) : codeOk fn.ntmps c = true := by
  have := hC.funcs
  have := List.all_eq_true.1 this fn (by rw [← Array.getElem?_toList] at hfn; exact List.mem_of_getElem? hfn)
  simp only [funcOk, hb, Bool.and_eq_true] at this; exact this.1

theorem FnD.of {k : FuncId} {fn : Func} {c : Code} {args : List V} {st : St} {Q : St → Prop} (hf : C.P.funcs[k]? = some fn) (hb : fn.body = some c) (hl : decide (args.length ≤ fn.ntmps) = true)
    (h : Ev C c ⟨frame0 fn.ntmps args, []⟩ st (Lv C fn k st.n fun _ st' => Q st')) : FnD C k args st Q := by
  refine ⟨fun hC hP hX => ⟨⟨fn, hf, by rw [hb]; rfl⟩, fun g w0 base w args' hG hgl hargs => ?_⟩⟩
  have hal := hargs.length
  have hl := of_decide_eq_true hl
  simp only [Array.length_toList] at hal
  refine (callsD_of_wp hf hb (R := fun e w' => ∃ v' st' g', e = .returned v' ∧ Q st' ∧ st.n ≤ st'.n ∧ Ext st.n g g' ∧ GR g' st' w0 base w') (wp_mono (h.ex hC hP hX (codeOk_of hC hf hb) hG hgl (FR_init hargs _ _) (by simp; omega)) ?_))
  rintro x a w' ⟨e, f', st2, ⟨g1, hx, e1, e2, e3, e4⟩, hn, hq⟩
  subst hx
  have key : f'.d = [] → ∀ vs, resultsV C st2.H f'.t fn.results.toList = some vs → Q (leaveV C k st.n (packV vs) st2).2 →
      a.defers = [] ∧ ∃ v', (results fn a.tmps).run C.P w' = .ok v' w' ∧ ∃ v'' st' g', Ending.returned v' = .returned v'' ∧ Q st' ∧ st.n ≤ st'.n ∧ Ext st.n g g' ∧ GR g' st' w0 base w' := by
    intro hd vs hvs hQ
    have hdef : a.defers = [] := by
      have := e3.d
      rw [hd] at this
      generalize a.defers = ds at this
      cases this; rfl
    obtain ⟨v', h1, v, st', g', h2, h3, h4, h5, h6, h7⟩ := results_sound (Q := fun _ st' => Q st') hC e2 e3.t hvs hQ
    exact ⟨hdef, v', h1, v', st', g', rfl, h2, by rw [h3]; exact hn, ⟨e1.le.trans h4, fun i hi => ⟨(h5 i).1.trans (e1.old i hi).1, (h5 i).2.trans (e1.old i hi).2⟩⟩, h7⟩
  cases e
  case normal => obtain ⟨hd, vs, h1, h2⟩ := hq; exact key hd vs h1 h2
  case ret => obtain ⟨hd, vs, h1, h2⟩ := hq; exact key hd vs h1 h2
  all_goals exact hq.elim

/-- The calls that were put off, and the answer. -/
def LvD (C : Cfg) (fn : Func) (k : FuncId) (n0 : Nat) (Q : V → St → Prop) (t : List (Nat × V)) : List (V × List V) → St → Prop
  | [], st => ∃ vs, resultsV C st.H t fn.results.toList = some vs ∧ Q (leaveV C k n0 (packV vs) st).1 (leaveV C k n0 (packV vs) st).2
  | (.func (.func j) [] ca, args) :: ds, st => FnD C j (args ++ ca) st fun st' => LvD C fn k n0 Q t ds st'
  | _ :: _, _ => False

theorem leavesD (hC : COk C) (hP : GlobPure C) (hX : XOk C) {fn : Func} {k : FuncId} {n0 : Nat} {Q : V → St → Prop} {t : List (Nat × V)} {tmps : Array Value} {w0 : W0} {base : Nat} {g0 : Ghost} {R : Ending → World → Prop}
    (hR : ∀ v st' v' g' w', Q v st' → n0 ≤ st'.n → Ext n0 g0 g' → VR g' v v' → GR g' st' w0 base w' → R (.returned v') w') :
    ∀ (ds : List (V × List V)) {defs : List Deferred} {g : Ghost} {st : St} {w : World}, DR g ds defs → Ext n0 g0 g → n0 ≤ st.n → GR g st w0 base w → GlobR C g w0 base → (∀ i, VR g (tget t i) (tmps.getD i undef)) → LvD C fn k n0 Q t ds st →
      Leaves C.P fn tmps R defs .returning w := by
  intro ds
  induction ds with
  | nil =>
    intro defs g st w hd he hn hG hgl ht h
    cases hd
    obtain ⟨vs, h1, h2⟩ := h
    obtain ⟨v', k1, v, st', g', k2, k3, k4, k5, k6, k7⟩ := results_sound hC hG ht h1 h2
    exact ⟨v', k1, hR v st' v' g' w k2 (by rw [k3]; exact hn) ⟨he.le.trans k4, fun i hi => ⟨(k5 i).1.trans (he.old i hi).1, (k5 i).2.trans (he.old i hi).2⟩⟩ k6 k7⟩
  | cons d ds ih =>
    intro defs g st w hd he hn hG hgl ht h
    cases hd with
    | @cons j ca args d' _ ds' ca' h1 h2 h3 h4 =>
      have h : FnD C j (args ++ ca) st fun st' => LvD C fn k n0 Q t ds st' := h
      obtain ⟨⟨fn', hf1, hf2⟩, hcall⟩ := h.ex hC hP hX
      obtain ⟨tg, dargs⟩ := d'
      simp only at h1 h3
      subst h1
      refine leaves_cons (by simp) (f := j) (args := dargs ++ ca') ?_ ((hcall g w0 base w (dargs ++ ca') hG hgl (by rw [Array.toList_append]; exact h3.append h2)).mono ?_)
      · simp only [invoke, run_callFunc hC hf1 hf2]
      · rintro e u w' ⟨rfl, v', st', g', rfl, hq, hn', hext, hG'⟩
        exact ih (h4.mono hext.le) (he.trans hext hn) (Nat.le_trans hn hn') hG' (hgl.mono hext.le) (fun i => (ht i).mono hext.le) hq

/-- A function that puts calls off. -/
theorem Fn.ofD {k : FuncId} {fn : Func} {c : Code} {args : List V} {st : St} {Q : V → St → Prop} (hf : C.P.funcs[k]? = some fn) (hb : fn.body = some c) (hl : decide (args.length ≤ fn.ntmps) = true)
    (h : Ev C c ⟨frame0 fn.ntmps args, []⟩ st (fun e f' st' => (e = .normal ∨ e = .ret) ∧ LvD C fn k st.n Q f'.t f'.d st')) : Fn C k args st Q := by
  refine ⟨fun hC hP hX => ⟨⟨fn, hf, by rw [hb]; rfl⟩, fun g w0 base w args' hG hgl hargs => ?_⟩⟩
  have hal := hargs.length
  have hl := of_decide_eq_true hl
  simp only [Array.length_toList] at hal
  refine calls_of_wp_defers hf hb (wp_mono (h.ex hC hP hX (codeOk_of hC hf hb) hG hgl (FR_init hargs _ _) (by simp; omega)) ?_)
  rintro x a w' ⟨e, f', st2, ⟨g1, hx, e1, e2, e3, e4⟩, hn, he, hq⟩
  subst hx
  have key := leavesD hC hP hX (R := fun e w' => ∃ v st' v' g', Q v st' ∧ st.n ≤ st'.n ∧ e = .returned v' ∧ Ext st.n g g' ∧ VR g' v v' ∧ GR g' st' w0 base w')
    (fun v st' v' g' w' q1 q2 q3 q4 q5 => ⟨v, st', v', g', q1, q2, rfl, q3, q4, q5⟩) f'.d e3.d e1 hn e2 (hgl.mono e1.le) e3.t hq
  rcases he with rfl | rfl
  · exact key
  · exact key
end
end Go.Vm
