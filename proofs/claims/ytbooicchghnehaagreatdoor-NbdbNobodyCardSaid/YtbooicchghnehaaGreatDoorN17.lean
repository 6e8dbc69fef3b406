/- Rules: what code does, piece by piece, whatever is drawn. -/
import Derived.Test.YtbooicchghnehaaGreatDoorN14
import Derived.KernelRfl
set_option linter.unusedSimpArgs false
set_option linter.unusedVariables false
namespace Go.Vm
open Go Go.RowKit

section
variable {C : Cfg}

/-! ### Calls, by what they may answer -/
/-- A call answers something that Q lets in. -/
def ACS (C : Cfg) (k : FuncId) (args : List V) (st : St) (Q : V → St → Prop) : Prop :=
  (∃ fn, C.P.funcs[k]? = some fn ∧ fn.body.isSome = true) ∧
  ∀ (g : Ghost) (w0 : W0) (base : Nat) (w : World) (args' : Array Value), GR g st w0 base w → GlobR C g w0 base → VRl g args args'.toList →
    Calls C.P k args' w fun e w' => ∃ v st' v' g', Q v st' ∧ st.n ≤ st'.n ∧ e = .returned v' ∧ Ext st.n g g' ∧ VR g' v v' ∧ GR g' st' w0 base w'

structure Fn (C : Cfg) (k : FuncId) (args : List V) (st : St) (Q : V → St → Prop) : Prop where
  ex : COk C → GlobPure C → XOk C → ACS C k args st Q

theorem ACS.mono {k : FuncId} {args : List V} {st : St} {Q Q' : V → St → Prop} (h : ACS C k args st Q) (hq : ∀ v st', Q v st' → Q' v st') : ACS C k args st Q' :=
  ⟨h.1, fun g w0 base w args' a b c => (h.2 g w0 base w args' a b c).mono fun e w' ⟨v, st', v', g', h1, h2⟩ => ⟨v, st', v', g', hq _ _ h1, h2⟩⟩
theorem Fn.mono {k : FuncId} {args : List V} {st : St} {Q Q' : V → St → Prop} (h : Fn C k args st Q) (hq : ∀ v st', Q v st' → Q' v st') : Fn C k args st Q' := ⟨fun a b c => (h.ex a b c).mono hq⟩
theorem ACS.of {k : FuncId} {args : List V} {st st' : St} {v : V} {Q : V → St → Prop} (h : AC C k args st v st') (hq : Q v st') : ACS C k args st Q :=
  ⟨h.2.1, fun g w0 base w args' a b c => (h.2.2 g w0 base w args' a b c).mono fun e w' ⟨v', g', h1, h2, h3, h4⟩ => ⟨v, st', v', g', hq, h.1, h1, h2, h3, h4⟩⟩

/-- Operations that may change memory, and calls. -/
inductive WR (C : Cfg) (ρ : Operand → V) (st : St) : Op → (V → St → Prop) → Prop
  | wr {op : Op} {v : V} {st' : St} {R : V → St → Prop} : wrOp C (fun _ _ _ => none) ρ st op = some (v, st') → R v st' → WR C ρ st op R
  | call {q : Operand} {args : Array Operand} {ats : Array TypeId} {k : FuncId} {fi ca : List V} {R : V → St → Prop} : ρ q = .func (.func k) fi ca → ACS C k (fi ++ args.toList.map ρ ++ ca) st R → WR C ρ st (.call { callee := .value q, args := args, argTypes := ats }) R
  | invoke {r : Operand} {name : String} {args : Array Operand} {ats : Array TypeId} {t : TypeId} {y x : V} {k : FuncId} {R : V → St → Prop} : ρ r = .iface t y → methodV C t y name = some (k, x) → ACS C k (x :: args.toList.map ρ) st R →
      WR C ρ st (.call { callee := .invoke r name, args := args, argTypes := ats }) R

theorem WR.mono {ρ : Operand → V} {st : St} {op : Op} {R R' : V → St → Prop} (h : WR C ρ st op R) (hr : ∀ v st', R v st' → R' v st') : WR C ρ st op R' := by
  cases h with
  | wr h1 h2 => exact .wr h1 (hr _ _ h2)
  | call h1 h2 => exact .call h1 (h2.mono hr)
  | invoke h1 h2 h3 => exact .invoke h1 h2 (h3.mono hr)

theorem WR.congr {ρ ρ2 : Operand → V} {st : St} {op : Op} {R : V → St → Prop} (h : ∀ x ∈ op.operands, ρ x = ρ2 x) (hw : WR C ρ st op R) : WR C ρ2 st op R := by
  cases hw with
  | wr h1 h2 => exact .wr ((wrOp_congr h).symm.trans h1) h2
  | @call q args ats k fi ca R h1 h2 =>
    have hargs : args.toList.map ρ = args.toList.map ρ2 := List.map_congr_left fun x hx => h x (by simp [Op.operands, Call.operands]; right; simpa using hx)
    refine .call (by rw [← h q (by simp [Op.operands, Call.operands])]; exact h1) ?_
    rw [← hargs]; exact h2
  | @invoke r name args ats t y x k R h1 h2 h3 =>
    have hargs : args.toList.map ρ = args.toList.map ρ2 := List.map_congr_left fun x hx => h x (by simp [Op.operands, Call.operands]; right; simpa using hx)
    refine .invoke (by rw [← h r (by simp [Op.operands, Call.operands])]; exact h1) h2 ?_
    rw [← hargs]; exact h3

theorem KOk_none : KOk C (fun _ _ _ => none) := fun _ _ _ _ _ h => by cases h

theorem wrS_sound (hC : COk C) {g : Ghost} {st : St} {w0 : W0} {base : Nat} {w : World} (hG : GR g st w0 base w) (hgl : GlobR C g w0 base) {ρ : Operand → V} {a : Act} (o : Oper) (hρ : ∀ x, VR g (ρ x) (a.eval x)) {R : V → St → Prop} (h : WR C ρ st o.op R) :
    ∀ (Kc : Act → World → Prop) (Q : Exit → Act → World → Prop), (∀ v st' g' v' w', R v st' → st.n ≤ st'.n → Ext st.n g g' → VR g' v v' → GR g' st' w0 base w' → Kc (a.put o.dst v') w') → o.wp C.P a w Kc Q := by
  have enter : ∀ (k : FuncId) (args : List V) (args' : Array Value), ACS C k args st R → VRl g args args'.toList → (execOp a.eval o).run C.P w = .ok (.enter k args') w →
      ∀ (Kc : Act → World → Prop) (Q : Exit → Act → World → Prop), (∀ v st' g' v' w', R v st' → st.n ≤ st'.n → Ext st.n g g' → VR g' v v' → GR g' st' w0 base w' → Kc (a.put o.dst v') w') → o.wp C.P a w Kc Q := by
    intro k args args' hk hargs hrun
    intro Kc Q hKc
    unfold Oper.wp
    rw [hrun, Oper.upon_enter]
    refine (hk.2 g w0 base w args' hG hgl hargs).mono fun e w' ⟨v, st', v', g', hr, hn, he, hext, hv, hG'⟩ => ?_
    subst he
    exact hKc v st' g' v' w' hr hn hext hv hG'
  obtain ⟨dst, op, type, pos, after, guard⟩ := o
  simp only at h
  cases h with
  | @wr op v st' R h1 h2 =>
    intro Kc Q hKc
    exact wr_sound hC KOk_none hG hgl _ hρ h1 Kc Q fun g' v' w' e1 e2 e3 => hKc v st' g' v' w' h2 (wrOp_n KOk_none h1) e1 e2 e3
  | @call q args ats k fi ca R h1 h2 =>
    have hq := hρ q
    rw [h1] at hq
    obtain ⟨fi', ca', hq', h3, h4⟩ := hq
    obtain ⟨⟨fn, hf1, hf2⟩, _⟩ := id h2
    refine enter k _ (fi' ++ args.map a.eval ++ ca') h2 ?_ ?_
    · simp only [Array.toList_append, Array.toList_map]
      exact (h3.append (VRl.map hρ _)).append h4
    · simp only [execOp, resolve, hq', Deferred.ofValue, Sem.run_bind, Sem.run_pure, Result.andThen_ok, invoke, run_callFunc hC hf1 hf2]
  | @invoke r name args ats t y x k R h1 h2 h3 =>
    have hr := hρ r
    rw [h1] at hr
    obtain ⟨y', hr', hy⟩ := hr
    obtain ⟨x', h1', h2'⟩ := methodV_sound hC h2 hy (C.P.types.size + 99) w
    obtain ⟨⟨fn, hf1, hf2⟩, _⟩ := id h3
    refine enter k _ (#[x'] ++ args.map a.eval) h3 ?_ ?_
    · simp only [Array.toList_append, Array.toList_map]
      exact ⟨x', _, rfl, h2', VRl.map hρ _⟩
    · have hext : (#[Value.iface t y'] ++ args.map a.eval).extract 1 (#[Value.iface t y'] ++ args.map a.eval).size = args.map a.eval := by
        apply Array.toList_inj.1
        simp [List.extract_eq_take_drop]
        exact List.take_of_length_le (by simp)
      have h0 : (#[Value.iface t y'] ++ args.map a.eval)[0]? = some (Value.iface t y') := by rw [← Array.getElem?_toList]; simp
      have h1'' : (method (C.P.types.size + Made.depth) t y' name).run C.P w = .ok (k, x') w := h1'
      simp only [execOp, resolve, hr', Sem.run_bind, Sem.run_pure, Result.andThen_ok, invoke, h0, hext, callMethod, run_program, h1'', run_callFunc hC hf1 hf2]

/-! ### What code does -/
/-- Behind a piece of code. -/
def Pst (C : Cfg) (N n0 : Nat) (g0 : Ghost) (w0 : W0) (base : Nat) (Q : Ex → Fr → St → Prop) : Exit → Act → World → Prop := fun x a w =>
  ∃ e f st, Post C N n0 g0 w0 base e f st x a w ∧ n0 ≤ st.n ∧ Q e f st

structure Ev (C : Cfg) (c : Code) (f : Fr) (st : St) (Q : Ex → Fr → St → Prop) : Prop where
  ex : COk C → GlobPure C → XOk C → ∀ {N : Nat} {w0 : W0} {base : Nat} {g : Ghost} {w : World} {a : Act}, codeOk N c = true → GR g st w0 base w → GlobR C g w0 base → FR g f a → a.tmps.size = N →
    c.wp C.P (Pst C N st.n g w0 base Q) a w
structure EvS (C : Cfg) (b c : Code) (f : Fr) (st : St) (Q : Ex → Fr → St → Prop) : Prop where
  ex : COk C → GlobPure C → XOk C → ∀ {N : Nat} {w0 : W0} {base : Nat} {g : Ghost} {w : World} {a : Act}, codeOk N b = true → codeOk N c = true → GR g st w0 base w → GlobR C g w0 base → FR g f a → a.tmps.size = N →
    SW C.P b c (Pst C N st.n g w0 base Q) a w
structure EvOps (C : Cfg) (ops : Array Oper) (l : List Oper) (f : Fr) (st : St) (Q : Fr → St → Prop) : Prop where
  ex : COk C → GlobPure C → XOk C → ∀ {N : Nat} {w0 : W0} {base : Nat} {g : Ghost} {w : World} {a : Act}, opsOk N ops = true → (∀ o ∈ l, ∀ d, o.dst = some d → d < N) → GR g st w0 base w → GlobR C g w0 base → FR g f a → a.tmps.size = N →
    ∀ R : Exit → Act → World → Prop, (∀ f' st' g' a' w', Q f' st' → st.n ≤ st'.n → Ext st.n g g' → FR g' f' a' → GR g' st' w0 base w' → a'.tmps.size = N → R .normal a' w') → wpList C.P ops R l a w

/-- Which operations are to be looked at again. -/
def again (ops : Array Oper) (done : List Nat) (i : Nat) : List Nat := done.filter fun d => !(beforeL ops i).contains d && hoistAt ops d && (match ops[d]? with | .some p => heapDep p.op | .none => false)

def PlanP (C : Cfg) (ops : Array Oper) : List Nat → List Nat → Fr → St → (Fr → St → Prop) → Prop
  | _, [], f, st, Q => Q f st
  | done, i :: rest, f, st, Q => ∃ o, ops[i]? = some o ∧
    ((wantedV f ops o = some false ∧ PlanP C ops (i :: done) rest (f.put o.dst (.tup [])) st Q) ∨
     (wantedV f ops o = some true ∧ hoistAt ops i = true ∧ ∃ v st', quietOp C f st o.op = some (v, st') ∧ PlanP C ops (i :: done) rest (f.put o.dst v) st' Q) ∨
     (wantedV f ops o = some true ∧ hoistAt ops i = false ∧ hoist o.op = true ∧ ∃ v st', quietOp C f st o.op = some (v, st') ∧ (again ops done i).all (stillOk C (f.put o.dst v) st' ops) = true ∧ PlanP C ops (i :: done) rest (f.put o.dst v) st' Q) ∨
     (wantedV f ops o = some true ∧ hoistAt ops i = false ∧ hoist o.op = false ∧ WR C (evalO C f) st o.op fun v st' => (again ops done i).all (stillOk C (f.put o.dst v) st' ops) = true ∧ PlanP C ops (i :: done) rest (f.put o.dst v) st' Q))

structure EvPlan (C : Cfg) (ops : Array Oper) (done l : List Nat) (f : Fr) (st : St) (Q : Fr → St → Prop) : Prop where
  ex : COk C → GlobPure C → XOk C → PlanP C ops done l f st Q

/-! ### Whatever the order -/
section
variable {N n0 : Nat} {w0 : W0} {base : Nat} {ops : Array Oper} {listed : Array Bool} {done : List Nat} {f : Fr} {st : St} {a : Act} {w : World} {g : Ghost} {nm : Nat → Option Nat}

theorem Inv.writeS (hC : COk C) (hall : opsOk N ops = true) (h : Inv C ops N n0 w0 base listed done f st a w g nm) {i : Nat} {o : Oper} (ho : ops[i]? = some o) (hr : readyAt ops done i = true) (hh : hoistAt ops i = false)
    (hj : i ∈ Region.ready .any ops listed) (hwt : wantedV f ops o = some true) {R : V → St → Prop} (hrun : WR C (evalO C f) st o.op fun v st' => (again ops done i).all (stillOk C (f.put o.dst v) st' ops) = true ∧ R v st')
    {Q : Exit → Act → World → Prop} {Kc : Act → World → Prop} (hKc : ∀ v st' a' w' g', R v st' → Inv C ops N n0 w0 base (listed.setIfInBounds i true) (i :: done) (f.put o.dst v) st' a' w' g' nm → Ext n0 g g' → Kc a' w') : wpOp C.P ops Q i Kc a w := by
  have hpre := pre_of_ready hj
  have hi : i ∉ done := (readyAt_spec.1 hr).choose_spec.2.1
  have hlooks := h.looks ho hpre
  have hw : ∀ b, wantedV f ops o = some b → Region.wanted o (yielded ops a.tmps) = b := fun b hb =>
    wantedV_sound (fun i hi => hlooks i (looks_guard hi)) (fun i hi => h.guard_lt hall o i hi) hb
  have hm := masked_VR (C := C) h.gl hlooks
  unfold wpOp
  rw [ho]
  simp only
  rw [if_pos (hw _ hwt)]
  refine .inl ?_
  refine wrS_sound hC h.gr h.gl o hm (hrun.congr masked_eq) Kc Q fun v st' g' v' w' ⟨hstill, hR⟩ e4 e1 e2 e3 => ?_
  exact hKc v st' _ _ g' hR (h.wrote hall ho hr hh hpre e2 e3 e1 e4 fun d hd hu hl => hl.write (h.others ho hi hh hpre _ d hd hu) (fun p hp hdep => by
    refine List.all_eq_true.1 hstill d (List.mem_filter.2 ⟨hd, ?_⟩)
    have hwd : (beforeL ops i).contains d = false := by
      cases hx : (beforeL ops i).contains d with
      | false => rfl
      | true => rw [beforeL_listed h.closed hpre d (by simpa using hx)] at hu; cases hu
    rw [hwd, (h.late d hd hu).1, hp]
    simpa using hdep) e4 e1.old) (e1.mono h.n0le)

theorem planS_sound (hC : COk C) (hall : opsOk N ops = true) (Q : Exit → Act → World → Prop) {R : Fr → St → Prop} : ∀ (fuel : Nat) (rest done : List Nat) (listed : Array Bool) (f : Fr) (st : St) (a : Act) (w : World) (g : Ghost) (nm : Nat → Option Nat),
    Inv C ops N n0 w0 base listed done f st a w g nm → PlanP C ops done rest f st R → planOk ops done rest = true → cnt ops listed ≤ fuel →
    (∀ ff sf g' a' w', R ff sf → Ext n0 g g' → FR g' ff a' → GR g' sf w0 base w' → n0 ≤ sf.n → a'.tmps.size = N → Q .normal a' w') → wpAny C.P .any ops Q fuel listed a w := by
  intro fuel
  induction fuel with
  | zero =>
    intro rest done listed f st a w g nm h hrun hplan hcnt hQ
    have he : Region.ready .any ops listed = [] := by
      cases hr : Region.ready .any ops listed with
      | nil => rfl
      | cons j js =>
        have hj : j ∈ Region.ready .any ops listed := by rw [hr]; exact List.mem_cons_self
        have := cnt_set hj h.size
        omega
    refine ⟨he, ?_⟩
    have hd := h.all_done he
    cases rest with
    | nil =>
      exact hQ f st g a w hrun (Ext.refl _ _) ⟨fun t => h.fr t (fun d hdd hu => by rw [hd d hdd] at hu; cases hu), h.dr⟩ h.gr h.n0le h.tm
    | cons i rest =>
      exfalso
      simp only [planOk, Bool.and_eq_true] at hplan
      obtain ⟨o, ho, h1, h2⟩ := readyAt_spec.1 hplan.1.1.1
      have hlt : i < listed.size := by rw [h.size]; exact lt_of_at ho
      have hun : listed.getD i false = false := by
        cases hl : listed.getD i false with
        | false => rfl
        | true => exact absurd (h.sub i hl) h1
      have : i ∈ Region.ready .any ops listed := mem_ready.2 ⟨by simpa [hlt] using hun, o, ho, fun e hme hb => hd _ (h2 e hme hb)⟩
      rw [he] at this; cases this
  | succ fuel ih =>
    intro rest done listed f st a w g nm h hrun hplan hcnt hQ
    refine ⟨fun he => ?_, fun j hj => ?_⟩
    · have hd := h.all_done he
      cases rest with
      | nil =>
        exact hQ f st g a w hrun (Ext.refl _ _) ⟨fun t => h.fr t (fun d hdd hu => by rw [hd d hdd] at hu; cases hu), h.dr⟩ h.gr h.n0le h.tm
      | cons i rest =>
        exfalso
        simp only [planOk, Bool.and_eq_true] at hplan
        obtain ⟨o, ho, h1, h2⟩ := readyAt_spec.1 hplan.1.1.1
        have hlt : i < listed.size := by rw [h.size]; exact lt_of_at ho
        have hun : listed.getD i false = false := by
          cases hl : listed.getD i false with
          | false => rfl
          | true => exact absurd (h.sub i hl) h1
        have : i ∈ Region.ready .any ops listed := mem_ready.2 ⟨by simpa [hlt] using hun, o, ho, fun e hme hb => hd _ (h2 e hme hb)⟩
        rw [he] at this; cases this
    · have hcnt' : cnt ops (listed.setIfInBounds j true) ≤ fuel := by have := cnt_set hj h.size; omega
      have main : ∀ (rest done : List Nat) (f : Fr) (st : St) (nm : Nat → Option Nat), Inv C ops N n0 w0 base listed done f st a w g nm → PlanP C ops done rest f st R → planOk ops done rest = true →
          wpOp C.P ops Q j (wpAny C.P .any ops Q fuel (listed.setIfInBounds j true)) a w := by
        intro rest
        induction rest with
        | nil =>
          intro done f st nm h hrun hplan
          obtain ⟨_, o, ho, _⟩ := mem_ready.1 hj
          have hjd : j ∈ done := (planOk_complete hplan j (lt_of_at ho)).resolve_right (by simp)
          exact h.catch_up hC hall hj hjd fun a' w' g' h' e => ih _ _ _ _ _ _ _ g' nm h' hrun hplan hcnt' fun ff sf g2 a2 w2 hR e2 => hQ ff sf g2 a2 w2 hR (e.trans e2 (Nat.le_refl _))
        | cons i rest ihr =>
          intro done f st nm h hrun hplan
          by_cases hjd : j ∈ done
          · exact h.catch_up hC hall hj hjd fun a' w' g' h' e => ih _ _ _ _ _ _ _ g' nm h' hrun hplan hcnt' fun ff sf g2 a2 w2 hR e2 => hQ ff sf g2 a2 w2 hR (e.trans e2 (Nat.le_refl _))
          · have hplan0 := hplan
            simp only [planOk, Bool.and_eq_true, decide_eq_true_eq] at hplan
            obtain ⟨⟨⟨hr, hlt⟩, hif⟩, hrest⟩ := hplan
            obtain ⟨o, ho, hrun⟩ := hrun
            by_cases hh : hoistAt ops i = true
            · rw [if_pos hh] at hif
              have hp : ∀ j, j < ops.size → pairOk ops i j = true ∧ pairOk2 ops i j = true := fun j hj => by
                have := List.all_eq_true.1 hif j (List.mem_range.2 hj)
                simpa [Bool.and_eq_true] using this
              rcases hrun with ⟨hwf, hrun⟩ | ⟨hwt, _, v, st2, hq, hrun⟩ | ⟨_, hx, _⟩ | ⟨_, hx, _⟩
              · exact ihr _ _ _ _ (h.ahead ho hr hh hp (v := .tup []) (n' := none) (.inl rfl) (.inl ⟨hwf, rfl, rfl, rfl⟩)) hrun hrest
              · unfold quietOp at hq
                split at hq
                · rename_i u hu
                  cases hq
                  exact ihr _ _ _ _ (h.ahead ho hr hh hp (n' := none) (.inl rfl) (.inr ⟨hwt, .inl ⟨hu, rfl, rfl⟩⟩)) hrun hrest
                · split at hq
                  · rename_i u ob hu
                    cases hq
                    refine ihr _ _ _ _ (h.ahead ho hr hh hp (n' := ob.map fun _ => st.n) ?_ (.inr ⟨hwt, .inr ⟨ob, hu, rfl, rfl⟩⟩)) hrun hrest
                    cases ob with
                    | none => exact .inl rfl
                    | some ob => exact .inr ⟨ob, rfl⟩
                  · cases hq
              · rw [hh] at hx; cases hx
              · rw [hh] at hx; cases hx
            · have hhF : hoistAt ops i = false := by simpa using hh
              rw [if_neg hh] at hif
              simp only [Bool.and_eq_true] at hif
              have hji : j = i := by
                obtain ⟨_, oj, hoj, _⟩ := mem_ready.1 hj
                rcases planOk_complete hplan0 j (lt_of_at hoj) with h1 | h1
                · exact absurd h1 hjd
                · cases h1 with
                  | head => rfl
                  | tail _ h1 =>
                    exfalso
                    have := List.all_eq_true.1 hif.2 j h1
                    rw [hoj] at this
                    obtain ⟨e, he, hb⟩ := List.any_eq_true.1 this
                    simp only [Bool.and_eq_true, Bool.not_eq_true', List.contains_eq_mem, decide_eq_false_iff_not] at hb
                    have hl := pre_of_ready hj e.on (waits_spec.2 ⟨oj, hoj, e, by simpa using he, hb.1, rfl⟩)
                    exact hb.2 (h.sub _ hl)
              subst hji
              rcases hrun with ⟨hwf, hrun⟩ | ⟨_, hx, _⟩ | ⟨hwt, _, hop, v, st2, hq, hst, hrun⟩ | ⟨hwt, _, hop, hwr⟩
              · exact h.write hC (KOk_none (C := C)) hall ho hr hhF hj (.inl ⟨hwf, rfl, rfl⟩) fun a' w' g' h' e => ih _ _ _ _ _ _ _ g' nm h' hrun hrest hcnt' fun ff sf g2 a2 w2 hR e2 => hQ ff sf g2 a2 w2 hR (e.trans e2 (Nat.le_refl _))
              · exact absurd hx hh
              · exact h.write hC (KOk_none (C := C)) hall ho hr hhF hj (.inr ⟨hwt, v, by rw [if_pos hop]; exact hq, rfl, hst⟩) fun a' w' g' h' e => ih _ _ _ _ _ _ _ g' nm h' hrun hrest hcnt' fun ff sf g2 a2 w2 hR e2 => hQ ff sf g2 a2 w2 hR (e.trans e2 (Nat.le_refl _))
              · exact h.writeS hC hall ho hr hhF hj hwt hwr fun v st' a' w' g' hR' h' e => ih _ _ _ _ _ _ _ g' nm h' hR' hrest hcnt' fun ff sf g2 a2 w2 hR e2 => hQ ff sf g2 a2 w2 hR (e.trans e2 (Nat.le_refl _))
      exact main rest done f st nm h hrun hplan
end

/-- Behind a piece of code: the next, if it ends as it should. -/
def Nx (N : Fr → St → Prop) (Q : Ex → Fr → St → Prop) : Ex → Fr → St → Prop
  | .normal, f, st => N f st
  | e, f, st => Q e f st
def Bx (id : Nat) (Q : Ex → Fr → St → Prop) : Ex → Fr → St → Prop
  | .exit id', f, st => Q (if id' = id then .normal else .exit id') f st
  | e, f, st => Q e f st
def Gx (N : Nat → Fr → St → Prop) (Q : Ex → Fr → St → Prop) : Ex → Fr → St → Prop
  | .goto l, f, st => N l f st
  | e, f, st => Q e f st

section
variable {f : Fr} {st : St} {Q : Ex → Fr → St → Prop}

theorem Ev.mono {c : Code} {Q' : Ex → Fr → St → Prop} (h : Ev C c f st Q) (hq : ∀ e f' st', Q e f' st' → Q' e f' st') : Ev C c f st Q' :=
  ⟨fun hC hP hX N w0 base g w a hc hG hgl hf hN => wp_mono (h.ex hC hP hX hc hG hgl hf hN) fun x a' w' ⟨e, f', st', h1, h2, h3⟩ => ⟨e, f', st', h1, h2, hq _ _ _ h3⟩⟩

theorem Ev.skip (h : Q .normal f st) : Ev C .skip f st Q := ⟨fun _ _ _ _ _ _ g _ _ _ hG _ hf hN => wp_skip ⟨_, _, _, ⟨g, rfl, Ext.refl _ _, hG, hf, hN⟩, Nat.le_refl _, h⟩⟩
theorem Ev.label {l : Nat} (h : Q .normal f st) : Ev C (.label l) f st Q := ⟨fun _ _ _ _ _ _ g _ _ _ hG _ hf hN => wp_label ⟨_, _, _, ⟨g, rfl, Ext.refl _ _, hG, hf, hN⟩, Nat.le_refl _, h⟩⟩
theorem Ev.ret (h : Q .ret f st) : Ev C .ret f st Q := ⟨fun _ _ _ _ _ _ g _ _ _ hG _ hf hN => wp_ret ⟨_, _, _, ⟨g, rfl, Ext.refl _ _, hG, hf, hN⟩, Nat.le_refl _, h⟩⟩
theorem Ev.exit {id : Nat} (h : Q (.exit id) f st) : Ev C (.exit id) f st Q := ⟨fun _ _ _ _ _ _ g _ _ _ hG _ hf hN => wp_exit ⟨.exit id, _, _, ⟨g, rfl, Ext.refl _ _, hG, hf, hN⟩, Nat.le_refl _, h⟩⟩
theorem Ev.goto {l : Nat} (h : Q (.goto l) f st) : Ev C (.goto l) f st Q := ⟨fun _ _ _ _ _ _ g _ _ _ hG _ hf hN => wp_goto ⟨.goto l, _, _, ⟨g, rfl, Ext.refl _ _, hG, hf, hN⟩, Nat.le_refl _, h⟩⟩

theorem Pst.up {N n0 n1 : Nat} {g0 g1 : Ghost} {w0 : W0} {base : Nat} {x : Exit} {a : Act} {w : World} (e1 : Ext n0 g0 g1) (hn : n0 ≤ n1) (h : Pst C N n1 g1 w0 base Q x a w) : Pst C N n0 g0 w0 base Q x a w := by
  obtain ⟨e, f2, st2, ⟨g2, hx, k1, k2, k3, k4⟩, hn2, hq2⟩ := h
  exact ⟨e, f2, st2, ⟨g2, hx, e1.trans k1 hn, k2, k3, k4⟩, Nat.le_trans hn hn2, hq2⟩

theorem Ev.seq {x y : Code} (h : Ev C x f st (Nx (fun f' st' => Ev C y f' st' Q) Q)) : Ev C (.seq x y) f st Q := by
  refine ⟨fun hC hP hX N w0 base g w a hc hG hgl hf hN => ?_⟩
  simp only [codeOk, Bool.and_eq_true] at hc
  refine wp_seq (wp_mono (h.ex hC hP hX hc.1 hG hgl hf hN) fun x' a' w' ⟨e, f1, st1, ⟨g1, hx, e1, e2, e3, e4⟩, hn, hq⟩ => ?_)
  subst hx
  cases e
  case normal =>
    have hq : Ev C y f1 st1 Q := hq
    exact wp_mono (hq.ex hC hP hX hc.2 e2 (hgl.mono e1.le) e3 e4) fun x2 a2 w2 hp => hp.up e1 hn
  all_goals exact ⟨_, f1, st1, ⟨g1, rfl, e1, e2, e3, e4⟩, hn, hq⟩

theorem Ev.cond {c : Operand} {x y : Code} {t : Bool} (hc : evalO C f c = .bool t) (h : Ev C (if t then x else y) f st Q) : Ev C (.cond c x y) f st Q := by
  refine ⟨fun hC hP hX N w0 base g w a hk hG hgl hf hN => ?_⟩
  simp only [codeOk, Bool.and_eq_true] at hk
  have hv := hf.eval (C := C) hgl c
  rw [hc] at hv
  simp only [VR] at hv
  refine wp_cond hv ?_
  cases t
  · exact h.ex hC hP hX hk.2 hG hgl hf hN
  · exact h.ex hC hP hX hk.1 hG hgl hf hN

theorem Ev.cond2 {c : Operand} {a b : Code} {t : Bool} (hc : evalO C f c = .bool t) (h1 : t = true → Ev C a f st Q) (h0 : t = false → Ev C b f st Q) : Ev C (.cond c a b) f st Q := by
  refine Ev.cond hc ?_
  cases t
  · exact h0 rfl
  · exact h1 rfl

theorem Ev.block {id : Nat} {b : Code} (h : Ev C b f st (Bx id Q)) : Ev C (.block id b) f st Q := by
  refine ⟨fun hC hP hX N w0 base g w a hc hG hgl hf hN => ?_⟩
  refine wp_block (wp_mono (h.ex hC hP hX hc hG hgl hf hN) fun x' a' w' ⟨e, f1, st1, ⟨g1, hx, e1, e2, e3, e4⟩, hn, hq⟩ => ?_)
  subst hx
  cases e with
  | exit id' =>
    have hq : Q (if id' = id then .normal else .exit id') f1 st1 := hq
    simp only [exR, Exit.inBlock]
    by_cases hid : id' = id
    · simp only [hid, if_true] at hq ⊢; exact ⟨_, f1, st1, ⟨g1, rfl, e1, e2, e3, e4⟩, hn, hq⟩
    · simp only [hid, if_false] at hq ⊢; exact ⟨_, f1, st1, ⟨g1, rfl, e1, e2, e3, e4⟩, hn, hq⟩
  | normal => exact ⟨_, f1, st1, ⟨g1, rfl, e1, e2, e3, e4⟩, hn, hq⟩
  | ret => exact ⟨_, f1, st1, ⟨g1, rfl, e1, e2, e3, e4⟩, hn, hq⟩
  | goto l => exact ⟨_, f1, st1, ⟨g1, rfl, e1, e2, e3, e4⟩, hn, hq⟩

/-- A loop, by what holds ahead of each round, and what each round lowers. -/
theorem Ev.loop_ind {b : Code} (Inv : Nat → Fr → St → Prop) {n : Nat} (h0 : Inv n f st) (step : ∀ n f st, Inv n f st → Ev C b f st (Nx (fun f' st' => ∃ m, m < n ∧ Inv m f' st') Q)) : Ev C (.loop b) f st Q := by
  refine ⟨fun hC hP hX N w0 base g w a hc hG hgl hf hN => wp_loop_of ?_⟩
  induction n using Nat.strongRecOn generalizing f st g w a with
  | _ n ih =>
    intro b' k cs
    obtain ⟨x1, a1, w1, ⟨e, f1, st1, ⟨g1, hx, e1, e2, e3, e4⟩, hn, hq⟩, harr⟩ := (step n f st h0).ex hC hP hX hc hG hgl hf hN b' (.inLoop b :: k) cs
    subst hx
    cases e
    case normal =>
      obtain ⟨m, hm, hI⟩ := hq
      obtain ⟨x2, a2, w2, hp2, harr2⟩ := ih m hm hI _ _ _ e2 (hgl.mono e1.le) e3 e4 b' k cs
      exact ⟨x2, a2, w2, hp2.up e1 hn, .of_steps (Steps.trans harr (.one step_inLoop)) harr2⟩
    all_goals exact ⟨_, a1, w1, ⟨_, f1, st1, ⟨g1, rfl, e1, e2, e3, e4⟩, hn, hq⟩, .pass (x := .inLoop b) rfl (fun _ _ => .inl (by simp [exR])) harr⟩

theorem Ev.scope {b : Code} (h : EvS C b b f st Q) : Ev C (.scope b) f st Q :=
  ⟨fun hC hP hX N w0 base g w a hc hG hgl hf hN => wp_scope_of (h.ex hC hP hX hc hc hG hgl hf hN)⟩

/-- Behind a jump in a scope. -/
def Jx (C : Cfg) (b : Code) (Q : Ex → Fr → St → Prop) (l : Nat) (f : Fr) (st : St) : Prop :=
  match findLabel b l with
  | some r => EvS C b r f st Q
  | none => Q (.goto l) f st

theorem EvS.of {b c : Code} (h : Ev C c f st (Gx (Jx C b Q) Q)) : EvS C b c f st Q := by
  refine ⟨fun hC hP hX N w0 base g w a hb hc hG hgl hf hN b' k cs => ?_⟩
  obtain ⟨x1, a1, w1, ⟨e, f1, st1, ⟨g1, hx, e1, e2, e3, e4⟩, hn, hq⟩, harr⟩ := h.ex hC hP hX hc hG hgl hf hN b' (.inScope b :: k) cs
  subst hx
  cases e
  case goto l =>
    have hq : Jx C b Q l f1 st1 := hq
    unfold Jx at hq
    split at hq
    · rename_i r hr
      obtain ⟨x2, a2, w2, hp2, harr2⟩ := hq.ex hC hP hX hb (codeOk_find hr hb) e2 (hgl.mono e1.le) e3 e4 b' k cs
      exact ⟨x2, a2, w2, hp2.up e1 hn, .of_steps (harr _ (by simp [gotoIn, hr])) harr2⟩
    · rename_i hr
      exact ⟨_, a1, w1, ⟨_, f1, st1, ⟨g1, rfl, e1, e2, e3, e4⟩, hn, hq⟩, fun k' hk => harr k' (by simp [gotoIn, hr, hk])⟩
  case normal => exact ⟨_, a1, w1, ⟨_, f1, st1, ⟨g1, rfl, e1, e2, e3, e4⟩, hn, hq⟩, Steps.trans harr (.one step_inScope)⟩
  case ret => exact ⟨_, a1, w1, ⟨_, f1, st1, ⟨g1, rfl, e1, e2, e3, e4⟩, hn, hq⟩, harr⟩
  case exit id => exact ⟨_, a1, w1, ⟨_, f1, st1, ⟨g1, rfl, e1, e2, e3, e4⟩, hn, hq⟩, fun k' hk => harr k' (by simp [exitTo, hk])⟩

/-! Regions. -/
theorem Ev.ops {id : Nat} {ops : Array Oper} (h : EvOps C ops ops.toList f st (Q .normal)) (hp : pairV C f ops.toList = none := by kernel_rfl) : Ev C (.region id ops false) f st Q := by
  refine ⟨fun hC hP hX N w0 base g w a hc hG hgl hf hN => ?_⟩
  exact wp_region_list (h.ex hC hP hX hc (fun o ho d hd => opsOk_dst hc ho hd) hG hgl hf hN _ fun f' st' g' a' w' hq hn e1 e2 e3 e4 => ⟨_, f', st', ⟨g', rfl, e1, e3, e2, e4⟩, hn, hq⟩)
theorem Ev.drawn {id : Nat} {ops : Array Oper} (hp : planOk ops [] (plan ops) = true) {l : List Nat} (hl : plan ops = l) (h : EvPlan C ops [] l f st (Q .normal)) : Ev C (.region id ops true) f st Q := by
  refine ⟨fun hC hP hX N w0 base g w a hc hG hgl hf hN => ?_⟩
  subst hl
  refine wp_region_any hC.mixed ?_
  refine planS_sound (n0 := st.n) hC hc _ ops.size (plan ops) [] (Array.replicate ops.size false) f st a w.drew g (fun _ => none) ⟨by simp, fun i hi => ?_, fun j i hj => ?_, trivial, (fun d hd => by cases hd), (fun d hd => by cases hd), (fun d hd => by cases hd), hG.drew, hgl, fun t _ => hf.t t, hf.d, hN, Nat.le_refl _⟩ (h.ex hC hP hX) hp ?_
    fun f' st' g' a' w' hq e1 e2 e3 hn e4 => ⟨_, f', st', ⟨g', rfl, e1, e3, e2, e4⟩, hn, hq⟩
  · rw [show (Array.replicate ops.size false).getD i false = false by simp [Array.getElem?_replicate]; split <;> rfl] at hi; cases hi
  · rw [show (Array.replicate ops.size false).getD j false = false by simp [Array.getElem?_replicate]; split <;> rfl] at hj; cases hj
  · unfold cnt; exact Nat.le_trans (List.length_filter_le _ _) (by simp)
end

section
variable {ops : Array Oper} {f : Fr} {st : St} {Q : Fr → St → Prop}

theorem EvOps.nil (h : Q f st) : EvOps C ops [] f st Q := ⟨fun _ _ _ _ _ _ g w a _ _ hG _ hf hN R hR => hR f st g a w h (Nat.le_refl _) (Ext.refl _ _) hf hG hN⟩

/-- One operation, by what it does to both. -/
theorem EvOps.go {o : Oper} {rest : List Oper} (hw : wantedV f ops o = some true)
    (H : COk C → GlobPure C → XOk C → ∀ {w0 : W0} {base : Nat} {g : Ghost} {w : World} {a : Act}, GR g st w0 base w → GlobR C g w0 base → FR g f a → (∀ d, o.dst = some d → d < a.tmps.size) → ∀ (Kc : Act → World → Prop) (Qx : Exit → Act → World → Prop),
      (∀ f' st' g' a' w', EvOps C ops rest f' st' Q → st.n ≤ st'.n → Ext st.n g g' → FR g' f' a' → GR g' st' w0 base w' → a'.tmps.size = a.tmps.size → Kc a' w') → o.wp C.P a w Kc Qx) : EvOps C ops (o :: rest) f st Q := by
  refine ⟨fun hC hP hX N w0 base g w a hall hmem hG hgl hf hN R hR => wpList_step fun Kc hKc => ?_⟩
  have hsz : ∀ i, (∃ gw, o.guard = some gw ∧ (ops[gw.1]?).bind (·.dst) = some i) → i < a.tmps.size := fun i hi => by rw [hN]; exact opsOk_guard hall o i hi
  have hd : ∀ d, o.dst = some d → d < a.tmps.size := fun d hd => by rw [hN]; exact hmem o List.mem_cons_self d hd
  rw [if_pos (wantedV_sound (fun i _ => hf.t i) hsz hw)]
  exact H hC hP hX hG hgl hf hd Kc R fun f' st' g' a' w' hev hn e1 e2 e3 e4 => hKc a' w' (hev.ex hC hP hX hall (fun o ho => hmem o (List.mem_cons_of_mem _ ho)) e3 (hgl.mono e1.le) e2 (e4.trans hN) R
    fun f2 st2 g2 a2 w2 hq hn2 k1 k2 k3 k4 => hR f2 st2 g2 a2 w2 hq (Nat.le_trans hn hn2) (e1.trans k1 hn) k2 k3 k4)

theorem EvOps.quiet {o : Oper} {rest : List Oper} {v : V} {st' : St} (hw : wantedV f ops o = some true) (hq : quietOp C f st o.op = some (v, st')) (h : EvOps C ops rest (f.put o.dst v) st' Q) : EvOps C ops (o :: rest) f st Q :=
  EvOps.go hw fun hC hP hX w0 base g w a hG hgl hf hd Kc Qx hKc => by
    obtain ⟨g', v', w', h2, h3, h4, h5⟩ := quiet_sound hC hG (hf.eval (C := C) hgl) o hq
    unfold Oper.wp
    rw [h5, Oper.upon_value]
    exact hKc _ st' g' _ w' h (quietOp_n hq) h2 ((hf.mono h2.le).put hd h3) h4 (size_put _ _ _)

theorem EvOps.skip {o : Oper} {rest : List Oper} (hw : wantedV f ops o = some false) (h : EvOps C ops rest (f.put o.dst (.tup [])) st Q) : EvOps C ops (o :: rest) f st Q := by
  refine ⟨fun hC hP hX N w0 base g w a hall hmem hG hgl hf hN R hR => wpList_step fun Kc hKc => ?_⟩
  have hsz : ∀ i, (∃ gw, o.guard = some gw ∧ (ops[gw.1]?).bind (·.dst) = some i) → i < a.tmps.size := fun i hi => by rw [hN]; exact opsOk_guard hall o i hi
  have hd : ∀ d, o.dst = some d → d < a.tmps.size := fun d hd => by rw [hN]; exact hmem o List.mem_cons_self d hd
  rw [if_neg (by rw [wantedV_sound (fun i _ => hf.t i) hsz hw]; simp)]
  exact hKc _ _ (h.ex hC hP hX hall (fun o ho => hmem o (List.mem_cons_of_mem _ ho)) hG hgl (hf.put hd (VR_undef g)) ((size_put _ _ _).trans hN) R hR)

theorem EvOps.split {o : Oper} {rest : List Oper} {b : Bool} (hw : wantedV f ops o = some b) (h1 : b = true → EvOps C ops (o :: rest) f st Q) (h0 : b = false → EvOps C ops (o :: rest) f st Q) : EvOps C ops (o :: rest) f st Q := by
  cases b
  · exact h0 rfl
  · exact h1 rfl

/-- An operation that may change memory, and calls nothing. -/
def plainWr : Op → Bool
  | .store .. | .mapUpdate .. | .insert .. => true
  | .call { callee := .builtin .append, .. } => true
  | _ => false

theorem callF_zero : callF C 0 = fun _ _ _ => none := by funext k args st; rfl

/-- An operation that writes, or calls. -/
theorem EvOps.wrS {o : Oper} {rest : List Oper} (hw : wantedV f ops o = some true) (hq : COk C → GlobPure C → XOk C → WR C (evalO C f) st o.op fun v st' => EvOps C ops rest (f.put o.dst v) st' Q) : EvOps C ops (o :: rest) f st Q :=
  EvOps.go hw fun hC hP hX w0 base g w a hG hgl hf hd Kc Qx hKc =>
    wrS_sound hC hG hgl o (hf.eval (C := C) hgl) (hq hC hP hX) Kc Qx fun v st' g' v' w' hev hn e1 e2 e3 => hKc _ st' g' _ w' hev hn e1 ((hf.mono e1.le).put hd e2) e3 (size_put _ _ _)

theorem EvOps.wr {o : Oper} {rest : List Oper} {v : V} {st' : St} (hw : wantedV f ops o = some true) (hp : plainWr o.op = true) (hq : wrOp C (callF C 0) (evalO C f) st o.op = some (v, st')) (h : EvOps C ops rest (f.put o.dst v) st' Q) : EvOps C ops (o :: rest) f st Q :=
  EvOps.wrS hw fun _ _ _ => .wr (by rw [← callF_zero (C := C)]; exact hq) h

theorem EvOps.call {dst : Option Tmp} {g : Operand} {args : Array Operand} {ats : Array TypeId} {type : TypeId} {pos : String} {after : Array Edge} {guard : Option (Nat × Bool)} {rest : List Oper} {k : FuncId} {fi ca : List V}
    (hw : wantedV f ops { dst := dst, op := .call { callee := .value g, args := args, argTypes := ats }, type := type, pos := pos, after := after, guard := guard } = some true) (hg : evalO C f g = .func (.func k) fi ca)
    (h : Fn C k (fi ++ args.toList.map (evalO C f) ++ ca) st fun v st' => EvOps C ops rest (f.put dst v) st' Q) :
    EvOps C ops ({ dst := dst, op := .call { callee := .value g, args := args, argTypes := ats }, type := type, pos := pos, after := after, guard := guard } :: rest) f st Q :=
  EvOps.wrS hw fun hC hP hX => .call hg (h.ex hC hP hX)

/-- A call by an interface's method. -/
theorem EvOps.invoke {dst : Option Tmp} {r : Operand} {name : String} {args : Array Operand} {ats : Array TypeId} {type : TypeId} {pos : String} {after : Array Edge} {guard : Option (Nat × Bool)} {rest : List Oper} {k : FuncId} {t : TypeId} {y x : V}
    (hw : wantedV f ops { dst := dst, op := .call { callee := .invoke r name, args := args, argTypes := ats }, type := type, pos := pos, after := after, guard := guard } = some true) (hr : evalO C f r = .iface t y) (hm : methodV C t y name = some (k, x))
    (h : Fn C k (x :: args.toList.map (evalO C f)) st fun v st' => EvOps C ops rest (f.put dst v) st' Q) :
    EvOps C ops ({ dst := dst, op := .call { callee := .invoke r name, args := args, argTypes := ats }, type := type, pos := pos, after := after, guard := guard } :: rest) f st Q :=
  EvOps.wrS hw fun hC hP hX => .invoke hr hm (h.ex hC hP hX)

/-- A call that is put off. -/
theorem EvOps.defer {dst : Option Tmp} {q : Operand} {args : Array Operand} {ats : Array TypeId} {type : TypeId} {pos : String} {after : Array Edge} {guard : Option (Nat × Bool)} {rest : List Oper} {k : FuncId} {fi ca : List V}
    (hw : wantedV f ops { dst := dst, op := .defer { callee := .value q, args := args, argTypes := ats }, type := type, pos := pos, after := after, guard := guard } = some true) (hq : evalO C f q = .func (.func k) fi ca)
    (h : EvOps C ops rest (({ f with d := (.func (.func k) [] ca, fi ++ args.toList.map (evalO C f)) :: f.d } : Fr).put dst (.tup [])) st Q) :
    EvOps C ops ({ dst := dst, op := .defer { callee := .value q, args := args, argTypes := ats }, type := type, pos := pos, after := after, guard := guard } :: rest) f st Q :=
  EvOps.go hw fun hC hP hX w0 base g w a hG hgl hf hd Kc Qx hKc => by
    have hρ := hf.eval (C := C) hgl
    have hqr := hρ q
    rw [hq] at hqr
    obtain ⟨fi', ca', hq', h1, h2⟩ := hqr
    unfold Oper.wp
    have : (execOp a.eval { dst := dst, op := .defer { callee := .value q, args := args, argTypes := ats }, type := type, pos := pos, after := after, guard := guard }).run C.P w = .ok (.defer { target := .fn (.func k) ca', args := fi' ++ args.map a.eval }) w := by
      simp only [execOp, resolve, hq', Deferred.ofValue, Sem.run_bind, Sem.run_pure, Result.andThen_ok]
    rw [this, Oper.upon_defer]
    refine hKc _ st g _ w h (Nat.le_refl _) (Ext.refl _ _) ?_ hG (size_put _ _ _)
    refine FR.put (f := { f with d := _ :: f.d }) (a := { a with defers := _ :: a.defers }) ⟨hf.t, .cons rfl h2 ?_ hf.d⟩ hd (VR_undef g)
    simp only [Array.toList_append, Array.toList_map]
    exact h1.append (VRl.map hρ _)

/-! Regions whose order is open. -/
theorem EvPlan.nil {done : List Nat} (h : Q f st) : EvPlan C ops done [] f st Q := ⟨fun _ _ _ => h⟩
theorem EvPlan.skip {done rest : List Nat} {i : Nat} {o : Oper} (ho : ops[i]? = some o) (hw : wantedV f ops o = some false) (h : EvPlan C ops (i :: done) rest (f.put o.dst (.tup [])) st Q) : EvPlan C ops done (i :: rest) f st Q :=
  ⟨fun a b c => ⟨o, ho, .inl ⟨hw, h.ex a b c⟩⟩⟩
theorem EvPlan.quiet {done rest : List Nat} {i : Nat} {o : Oper} {v : V} {st' : St} (ho : ops[i]? = some o) (hh : hoistAt ops i = true) (hw : wantedV f ops o = some true) (hq : quietOp C f st o.op = some (v, st')) (h : EvPlan C ops (i :: done) rest (f.put o.dst v) st' Q) : EvPlan C ops done (i :: rest) f st Q :=
  ⟨fun a b c => ⟨o, ho, .inr (.inl ⟨hw, hh, v, st', hq, h.ex a b c⟩)⟩⟩
theorem EvPlan.late {done rest : List Nat} {i : Nat} {o : Oper} {v : V} {st' : St} (ho : ops[i]? = some o) (hh : hoistAt ops i = false) (hi : hoist o.op = true) (hw : wantedV f ops o = some true) (hq : quietOp C f st o.op = some (v, st')) {l : List Nat} (hl : again ops done i = l) (hs : l.all (stillOk C (f.put o.dst v) st' ops) = true)
    (h : EvPlan C ops (i :: done) rest (f.put o.dst v) st' Q) : EvPlan C ops done (i :: rest) f st Q := by
  subst hl
  exact ⟨fun a b c => ⟨o, ho, .inr (.inr (.inl ⟨hw, hh, hi, v, st', hq, hs, h.ex a b c⟩))⟩⟩
theorem EvPlan.wr {done rest : List Nat} {i : Nat} {o : Oper} {v : V} {st' : St} (ho : ops[i]? = some o) (hh : hoistAt ops i = false) (hp : plainWr o.op = true) (hw : wantedV f ops o = some true) (hq : wrOp C (callF C 0) (evalO C f) st o.op = some (v, st')) {l : List Nat} (hl : again ops done i = l) (hs : l.all (stillOk C (f.put o.dst v) st' ops) = true)
    (h : EvPlan C ops (i :: done) rest (f.put o.dst v) st' Q) : EvPlan C ops done (i :: rest) f st Q := by
  subst hl
  have hi : hoist o.op = false := by
    revert hp; cases o.op <;> simp only [plainWr, hoist, Bool.false_eq_true, implies_true, false_implies] <;> (intro h)
    rename_i c; obtain ⟨callee, args, ats⟩ := c
    cases callee <;> first | rfl | skip
    rename_i b
    cases b <;> first | rfl | cases h
  exact ⟨fun a b c => ⟨o, ho, .inr (.inr (.inr ⟨hw, hh, hi, .wr (by rw [← callF_zero (C := C)]; exact hq) ⟨hs, h.ex a b c⟩⟩))⟩⟩
theorem EvPlan.call {done rest : List Nat} {i : Nat} {dst : Option Tmp} {g : Operand} {args : Array Operand} {ats : Array TypeId} {type : TypeId} {pos : String} {after : Array Edge} {guard : Option (Nat × Bool)} {k : FuncId} {fi ca : List V}
    (ho : ops[i]? = some { dst := dst, op := .call { callee := .value g, args := args, argTypes := ats }, type := type, pos := pos, after := after, guard := guard }) (hh : hoistAt ops i = false)
    (hw : wantedV f ops { dst := dst, op := .call { callee := .value g, args := args, argTypes := ats }, type := type, pos := pos, after := after, guard := guard } = some true) (hg : evalO C f g = .func (.func k) fi ca) {l : List Nat} (hl : again ops done i = l)
    (h : Fn C k (fi ++ args.toList.map (evalO C f) ++ ca) st fun v st' => l.all (stillOk C (f.put dst v) st' ops) = true ∧ EvPlan C ops (i :: done) rest (f.put dst v) st' Q) :
    EvPlan C ops done (i :: rest) f st Q := by
  subst hl
  exact ⟨fun a b c => ⟨_, ho, .inr (.inr (.inr ⟨hw, hh, rfl, .call hg ((h.ex a b c).mono fun v st' h => ⟨h.1, h.2.ex a b c⟩)⟩))⟩⟩
theorem EvPlan.invoke {done rest : List Nat} {i : Nat} {dst : Option Tmp} {r : Operand} {name : String} {args : Array Operand} {ats : Array TypeId} {type : TypeId} {pos : String} {after : Array Edge} {guard : Option (Nat × Bool)} {k : FuncId} {t : TypeId} {y x : V}
    (ho : ops[i]? = some { dst := dst, op := .call { callee := .invoke r name, args := args, argTypes := ats }, type := type, pos := pos, after := after, guard := guard }) (hh : hoistAt ops i = false)
    (hw : wantedV f ops { dst := dst, op := .call { callee := .invoke r name, args := args, argTypes := ats }, type := type, pos := pos, after := after, guard := guard } = some true) (hr : evalO C f r = .iface t y) (hm : methodV C t y name = some (k, x)) {l : List Nat} (hl : again ops done i = l)
    (h : Fn C k (x :: args.toList.map (evalO C f)) st fun v st' => l.all (stillOk C (f.put dst v) st' ops) = true ∧ EvPlan C ops (i :: done) rest (f.put dst v) st' Q) :
    EvPlan C ops done (i :: rest) f st Q := by
  subst hl
  exact ⟨fun a b c => ⟨_, ho, .inr (.inr (.inr ⟨hw, hh, rfl, .invoke hr hm ((h.ex a b c).mono fun v st' h => ⟨h.1, h.2.ex a b c⟩)⟩))⟩⟩
end

/-! Calls. -/
def Lv (C : Cfg) (fn : Func) (k : FuncId) (n0 : Nat) (Q : V → St → Prop) : Ex → Fr → St → Prop
  | .normal, f, st | .ret, f, st => f.d = [] ∧ ∃ vs, resultsV C st.H f.t fn.results.toList = some vs ∧ Q (leaveV C k n0 (packV vs) st).1 (leaveV C k n0 (packV vs) st).2
  | _, _, _ => False

theorem leave_n (k : FuncId) (n0 : Nat) (v : V) (st : St) : (leaveV C k n0 v st).2.n = st.n := by
  unfold leaveV
  dsimp only
  split
  · rfl
  · split
    · split <;> rfl
    · rfl

theorem bodyS_sound (hC : COk C) (hP : GlobPure C) (hX : XOk C) {k : FuncId} {fn : Func} {c : Code} (hfn : C.P.funcs[k]? = some fn) (hb : fn.body = some c) {args : List V} {st : St} (hlen : args.length ≤ fn.ntmps) {Q : V → St → Prop}
    (h : Ev C c ⟨frame0 fn.ntmps args, []⟩ st (Lv C fn k st.n Q)) : ACS C k args st Q := by
  refine ⟨⟨fn, hfn, by rw [hb]; rfl⟩, fun g w0 base w args' hG hgl hargs => ?_⟩
  have hal := hargs.length
  simp only [Array.length_toList] at hal
  have hok : codeOk fn.ntmps c = true := by
    have := hC.funcs
    have := List.all_eq_true.1 this fn (by rw [← Array.getElem?_toList] at hfn; exact List.mem_of_getElem? hfn)
    simp only [funcOk, hb, Bool.and_eq_true] at this; exact this.1
  refine calls_of_wp hfn hb (wp_mono (h.ex hC hP hX hok hG hgl (FR_init hargs _ _) (by simp; omega)) ?_)
  rintro x a w' ⟨e, f', st2, ⟨g1, hx, e1, e2, e3, e4⟩, hn, hq⟩
  subst hx
  have key : f'.d = [] → ∀ vs, resultsV C st2.H f'.t fn.results.toList = some vs → Q (leaveV C k st.n (packV vs) st2).1 (leaveV C k st.n (packV vs) st2).2 →
      a.defers = [] ∧ ∃ v', (results fn a.tmps).run C.P w' = .ok v' w' ∧ ∃ v st' v'' g', Q v st' ∧ st.n ≤ st'.n ∧ Ending.returned v' = .returned v'' ∧ Ext st.n g g' ∧ VR g' v v'' ∧ GR g' st' w0 base w' := by
    intro hd vs hvs hQ
    have hdef : a.defers = [] := by
      have := e3.d
      rw [hd] at this
      generalize a.defers = ds at this
      cases this; rfl
    obtain ⟨xs, h2, h3⟩ := resultsV_sound hC e2 e3.t _ hvs
    have hres : ∃ x, (results fn a.tmps).run C.P w' = .ok x w' ∧ VR g1 (packV vs) x := by
      refine ⟨if h : xs.toArray.size = 1 then xs.toArray[0] else .tuple xs.toArray, ?_, ?_⟩
      · unfold results
        rw [show fn.results = fn.results.toList.toArray from rfl, List.mapM_toArray]
        simp only [Sem.run_bind, Sem.run_map]
        rw [h2 _ (fun _ => rfl) (fun _ _ => rfl)]
        simp
      · match vs, h3 with
        | [], h3 => simp only [VRl] at h3; subst h3; exact ⟨#[], rfl, rfl⟩
        | [v], h3 =>
          obtain ⟨u, r, e, hu, hr⟩ := h3
          simp only [VRl] at hr
          subst hr; subst e
          exact hu
        | a :: b :: vs, h3 =>
          have := h3.length
          rw [dif_neg (by simp only [List.size_toArray, ← this, List.length_cons]; omega)]
          exact ⟨xs.toArray, rfl, by simpa using h3⟩
    obtain ⟨x, hx, hxv⟩ := hres
    obtain ⟨l1, g2, l2, l3, l4, l5⟩ := leaveV_sound (v1 := (leaveV C k st.n (packV vs) st2).1) (st1 := (leaveV C k st.n (packV vs) st2).2) e2 k st.n hxv rfl
    exact ⟨hdef, x, hx, _, _, x, g2, hQ, by rw [l1]; exact hn, rfl, ⟨e1.le.trans l2, fun i hi => ⟨(l3 i).1.trans (e1.old i hi).1, (l3 i).2.trans (e1.old i hi).2⟩⟩, l4, l5⟩
  cases e
  case normal => obtain ⟨hd, vs, h1, h2⟩ := hq; exact key hd vs h1 h2
  case ret => obtain ⟨hd, vs, h1, h2⟩ := hq; exact key hd vs h1 h2
  all_goals exact hq.elim

/-- A call with a memory of its own. -/
theorem freshS_sound (hC : COk C) (hP : GlobPure C) {k : FuncId} {args : List V} {Q : V → St → Prop} {st : St} (h : ACS C k (args.map unown) ⟨[], 0⟩ fun v _ => pureV v = true ∧ Q v st) (ha : pureVs (args.map unown) = true) : ACS C k args st Q := by
  obtain ⟨h2, h3⟩ := h
  refine ⟨h2, fun g w0 base w args' hG hgl hargs => ?_⟩
  obtain ⟨g0, hg0⟩ : ∃ g0 : Ghost, g0 = { κ := fun _ => none, θ := fun _ => none, st := g.st } := ⟨_, rfl⟩
  have hst : ∀ B o v, g.st B o = some v → g0.st B o = some v := fun B o v hv => by rw [hg0]; exact hv
  have hG0 : GR g0 ⟨[], 0⟩ ⟨w, g.st⟩ w.heap.size w := by
    subst hg0
    exact ⟨Below.refl _ _, Nat.le_refl _, hG.stab, fun i ob B hi _ => by simp [hget] at hi, fun i j oi oj B hi _ _ _ => by simp [hget] at hi, fun i ob B hi => by simp [hget] at hi, fun _ _ => ⟨rfl, rfl⟩, List.Pairwise.nil, fun p hp => (by cases hp), fun _ _ _ => rfl⟩
  have hgl0 : GlobR C g0 ⟨w, g.st⟩ w.heap.size := ⟨fun i => (hgl.vr i).pureV hst _ _ (hP i), hC.inv _ _ (fun k hk => hG.below.block k (Nat.lt_of_lt_of_le hk hgl.lo)) hgl.inv, Nat.le_trans hgl.lo hG.lim0⟩
  refine (h3 g0 _ _ w args' hG0 hgl0 (VRl.pureV hst _ _ ha (VRl.mapF (fun v x h => unown_VR h) hargs))).mono fun e w' ⟨v, st1, x, g2, ⟨hv, hQ⟩, _, he, hext, hvr, hG2⟩ => ?_
  obtain ⟨g', hg'⟩ : ∃ g' : Ghost, g' = { κ := g.κ, θ := g.θ, st := g2.st } := ⟨_, rfl⟩
  have hle : g.le g' := by
    subst hg'
    exact ⟨fun _ _ h => h, fun _ _ h => h, fun B o v hv => hext.le.st _ _ _ (hst B o v hv)⟩
  have hblk : ∀ B, B < w.heap.size → w'.heap[B]? = w.heap[B]? := fun B hB => hG2.below.block B hB
  refine ⟨v, st, x, g', hQ, Nat.le_refl _, he, ⟨hle, fun i _ => by rw [hg']; exact ⟨rfl, rfl⟩⟩, VR.pureV (fun B o v hv => by rw [hg']; exact hv) _ _ hv hvr, ?_⟩
  have hlt : ∀ i ob B, hget st.H i = some ob → g'.κ i = some B → B < w.heap.size ∧ g.κ i = some B := fun i ob B hi hκ => by
    have hκ' : g.κ i = some B := by rw [hg'] at hκ; exact hκ
    exact ⟨(hG.obj i ob B hi hκ').lt, hκ'⟩
  refine ⟨⟨hG2.below.os.trans hG.below.os, hG2.below.tape.trans hG.below.tape, hG2.below.output.trans hG.below.output, Nat.le_trans hG.below.size hG2.below.size, fun k hk => (hblk k (Nat.lt_of_lt_of_le hk hG.lim0)).trans (hG.below.block k hk)⟩,
    Nat.le_trans hG.lim0 hG2.below.size, fun B o v hv => hG2.stab B o v (by rw [hg'] at hv; exact hv), fun i ob B hi hκ => ?_, fun i j oi oj B hi hj hκi hκj => hG.excl i j oi oj B hi hj (hlt i oi B hi hκi).2 (hlt j oj B hj hκj).2,
    fun i ob B hi hκ => hG.old i ob B hi (hlt i ob B hi hκ).2, fun i hi => by rw [hg']; exact hG.lim i hi, hG.sorted, hG.top, fun B o hB => ?_⟩
  · obtain ⟨hB, hκ'⟩ := hlt i ob B hi hκ
    refine (hG.obj i ob B hi hκ').keep hle (hblk B hB) (fun o ho => ?_) (by rw [hg']; exact fun _ h => h)
    rw [hg']
    exact (hG2.lo B o hB).trans ho
  · rw [hg']
    exact (hG2.lo B o (Nat.lt_of_lt_of_le hB hG.lim0)).trans (hG.lo B o hB)

theorem Fn.of {k : FuncId} {fn : Func} {c : Code} {args : List V} {st : St} {Q : V → St → Prop} (hf : C.P.funcs[k]? = some fn) (hx : C.X k args st = none) (hp : C.pure k = false) (hb : fn.body = some c) (hl : decide (args.length ≤ fn.ntmps) = true)
    (h : Ev C c ⟨frame0 fn.ntmps args, []⟩ st (Lv C fn k st.n Q)) : Fn C k args st Q :=
  ⟨fun hC hP hX => bodyS_sound hC hP hX hf hb (of_decide_eq_true hl) h⟩

/-- A call with a memory of its own. -/
theorem Fn.pure {k : FuncId} {fn : Func} {c : Code} {args : List V} {st : St} {Q : V → St → Prop} (hf : C.P.funcs[k]? = some fn) (hx : C.X k args st = none) (hp : C.pure k = true) (hb : fn.body = some c) (hl : decide (args.length ≤ fn.ntmps) = true) (ha : pureVs (args.map unown) = true)
    (h : Ev C c ⟨frame0 fn.ntmps (args.map unown), []⟩ ⟨[], 0⟩ (Lv C fn k 0 fun v _ => pureV v = true ∧ Q v st)) : Fn C k args st Q :=
  ⟨fun hC hP hX => freshS_sound hC hP (bodyS_sound hC hP hX hf hb (by rw [List.length_map]; exact of_decide_eq_true hl) h) ha⟩

/-- What the evaluator reckons. -/
theorem Fn.ofF {n : Nat} {k : FuncId} {args : List V} {st : St} {Q : V → St → Prop} {v : V} {st' : St} (h : callF C n k args st = some (v, st')) (hq : Q v st') : Fn C k args st Q :=
  ⟨fun hC hP hX => .of (callF_sound hC hP hX n _ _ _ _ _ h) hq⟩

/-- **What a call answers, the program's call answers.** -/
theorem Fn.sound (hC : COk C) (hP : GlobPure C) (hX : XOk C) {k : FuncId} {args : List V} {st : St} {Q : V → St → Prop} (h : Fn C k args st Q) {g : Ghost} {w0 : W0} {base : Nat} {w : World} {args' : Array Value} (hG : GR g st w0 base w) (hgl : GlobR C g w0 base) (ha : VRl g args args'.toList) :
    Calls C.P k args' w fun e w' => ∃ v st' v' g', Q v st' ∧ e = .returned v' ∧ VR g' v v' ∧ GR g' st' w0 base w' :=
  ((h.ex hC hP hX).2 g w0 base w args' hG hgl ha).mono fun e w' ⟨v, st', v', g', hq, _, he, _, hv, hg⟩ => ⟨v, st', v', g', hq, he, hv, hg⟩
end
end Go.Vm
