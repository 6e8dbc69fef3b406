/- Regions whose order is open: the whole. -/
import Derived.Test.YtbooicchghnehaaGreatDoorN10
import Derived.Lib.SlBytesConst
import Derived.Scope
set_option linter.unusedSimpArgs false
set_option linter.unusedVariables false
namespace Go.Vm
open Go Go.RowKit

section
variable {C : Cfg} {K : FuncId → List V → St → Option (V × St)} {ops : Array Oper} {N n0 : Nat} {w0 : W0} {base : Nat}
variable {listed : Array Bool} {done : List Nat} {f : Fr} {st : St} {a : Act} {w : World} {g : Ghost} {nm : Nat → Option Nat}

theorem Inv.others (h : Inv C ops N n0 w0 base listed done f st a w g nm) {i : Nat} {o : Oper} (ho : ops[i]? = some o) (hi : i ∉ done) (hh : hoistAt ops i = false) (hpre : ∀ p, waits ops i p = true → listed.getD p false = true) (v : V) :
    ∀ d ∈ done, listed.getD d false = false → ∀ p, ops[d]? = some p → (∀ t ∈ p.looksAt ops, tget (f.put o.dst v).t t = tget f.t t) ∧ ∀ t, p.dst = some t → tget (f.put o.dst v).t t = tget f.t t := by
  intro d hd hu p hpd
  have hhd := (h.late d hd hu).1
  have hp := h.pairs d hd hhd i (lt_of_at ho)
  have hne : i ≠ d := fun e => hi (e ▸ hd)
  refine ⟨fun t ht => tget_put_ne fun hdst => ?_, fun t ht => tget_put_ne fun hdst => ?_⟩
  · rcases pair2 hp.2 (dstIs_spec.2 ⟨o, ho, hdst⟩) (looksB_spec.2 ⟨p, hpd, ht⟩) with h1 | h1 | h1
    · rw [hh] at h1; cases h1
    · exact hi (h.topo.pred hd h1)
    · rw [hpre d h1] at hu; cases hu
  · have := (pair3 hp.1 (dstIs_spec.2 ⟨p, hpd, ht⟩) (dstIs_spec.2 ⟨o, ho, hdst⟩) hne).2
    rw [hpre d this] at hu; cases hu

/-- Both do an operation that may change memory. -/
theorem Inv.wrote (h : Inv C ops N n0 w0 base listed done f st a w g nm) (hall : opsOk N ops = true) {i : Nat} {o : Oper} (ho : ops[i]? = some o) (hr : readyAt ops done i = true) (hh : hoistAt ops i = false)
    (hpre : ∀ p, waits ops i p = true → listed.getD p false = true) {v : V} {v' : Value} {st' : St} {w' : World} {g' : Ghost} (hv : VR g' v v') (hG : GR g' st' w0 base w') (hext : Ext st.n g g') (hn : st.n ≤ st'.n)
    (hlz : ∀ d ∈ done, listed.getD d false = false → Lz C ops f st g n0 (nm d) d → Lz C ops (f.put o.dst v) st' g' n0 (nm d) d) :
    Inv C ops N n0 w0 base (listed.setIfInBounds i true) (i :: done) (f.put o.dst v) st' (a.put o.dst v') w' g' nm := by
  have hi : i ∉ done := (readyAt_spec.1 hr).choose_spec.2.1
  have hlt : i < listed.size := by rw [h.size]; exact lt_of_at ho
  refine ⟨by simpa using h.size, fun j hj => ?_, fun j p hj hp => ?_, ⟨hr, h.topo⟩, fun d hd hhd => ?_, fun d hd hu => ?_, fun d hd e he hdu heu => ?_, hG, h.gl.mono hext.le, fun t ht => ?_, by rw [put_defs, put_d]; exact h.dr.mono hext.le, by rw [size_put]; exact h.tm, Nat.le_trans h.n0le hn⟩
  · by_cases hij : i = j
    · subst hij; exact List.mem_cons_self
    · rw [getD_listed_ne hij] at hj; exact List.mem_cons_of_mem _ (h.sub j hj)
  · by_cases hij : i = j
    · subst hij; exact getD_set_true (hpre p hp)
    · rw [getD_listed_ne hij] at hj; exact getD_set_true (h.closed j p hj hp)
  · cases hd with
    | head => rw [hh] at hhd; cases hhd
    | tail _ hd => exact h.pairs d hd hhd
  · have hdi : i ≠ d := fun e => by subst e; rw [getD_listed_eq hlt] at hu; cases hu
    rw [getD_listed_ne hdi] at hu
    cases hd with
    | head => exact absurd rfl hdi
    | tail _ hd =>
      obtain ⟨k1, k2⟩ := h.late d hd hu
      exact ⟨k1, hlz d hd hu k2⟩
  · have hdi : i ≠ d := fun x => by subst x; rw [getD_listed_eq hlt] at hdu; cases hdu
    have hei : i ≠ e := fun x => by subst x; rw [getD_listed_eq hlt] at heu; cases heu
    rw [getD_listed_ne hdi] at hdu
    rw [getD_listed_ne hei] at heu
    cases hd with
    | head => exact absurd rfl hdi
    | tail _ hd =>
      cases he with
      | head => exact absurd rfl hei
      | tail _ he => exact h.uniq d hd e he hdu heu
  · by_cases hdt : o.dst = some t
    · rw [hdt, getD_put a (h.dst_lt hall ho hdt) v' t, if_pos rfl, tget_put_eq]; exact hv
    · rw [tget_put_ne hdt]
      have h1 : (a.put o.dst v').tmps.getD t undef = a.tmps.getD t undef := by
        cases hd : o.dst with
        | none => rfl
        | some d => rw [getD_put a (h.dst_lt hall ho hd) v' t, if_neg]; intro e; subst e; exact hdt hd
      rw [h1]
      refine (h.fr t fun d hd hu => ?_).mono hext.le
      have hdi : i ≠ d := fun e => hi (e ▸ hd)
      exact ht d (List.mem_cons_of_mem _ hd) (by rw [getD_listed_ne hdi]; exact hu)

theorem pre_of_ready {j : Nat} (hj : j ∈ Region.ready .any ops listed) : ∀ i, waits ops j i = true → listed.getD i false = true := by
  obtain ⟨hun, o, ho, hpre⟩ := mem_ready.1 hj
  intro i hw
  obtain ⟨o', ho', e, he, hb, rfl⟩ := waits_spec.1 hw
  rw [ho] at ho'; cases ho'
  exact hpre e he hb

/-! ### How many are left -/
def cnt (ops : Array Oper) (listed : Array Bool) : Nat := ((List.range ops.size).filter fun i => !listed.getD i true).length

theorem filter_length_lt {p q : Nat → Bool} {l : List Nat} (h : ∀ x ∈ l, q x = true → p x = true) {y : Nat} (hy : y ∈ l) (hp : p y = true) (hq : q y = false) : (l.filter q).length < (l.filter p).length := by
  induction l with
  | nil => cases hy
  | cons x l ih =>
    have hl : ∀ z ∈ l, q z = true → p z = true := fun z hz => h z (List.mem_cons_of_mem _ hz)
    have hle : ∀ l : List Nat, (∀ z ∈ l, q z = true → p z = true) → (l.filter q).length ≤ (l.filter p).length := by
      intro l
      induction l with
      | nil => intro _; simp
      | cons z l ih =>
        intro h
        have := ih fun u hu => h u (List.mem_cons_of_mem _ hu)
        simp only [List.filter_cons]
        split
        · rename_i hqz; rw [if_pos (h z List.mem_cons_self hqz)]; simp; omega
        · split
          · simp; omega
          · exact this
    simp only [List.filter_cons]
    cases hy with
    | head =>
      rw [hp, hq]
      have := hle l hl
      simp; omega
    | tail _ hy =>
      have := ih hl hy
      split
      · rename_i hqx; rw [if_pos (h x List.mem_cons_self hqx)]; simp; omega
      · split
        · simp; omega
        · exact this

theorem cnt_set {j : Nat} (hj : j ∈ Region.ready .any ops listed) (hs : listed.size = ops.size) : cnt ops (listed.setIfInBounds j true) < cnt ops listed := by
  obtain ⟨hun, o, ho, _⟩ := mem_ready.1 hj
  have hlt := lt_of_at ho
  refine filter_length_lt (y := j) (fun x hx hq => ?_) (List.mem_range.2 hlt) (by simp [hun]) (by simp [hs, hlt])
  simp only [Bool.not_eq_true'] at hq ⊢
  by_cases hjx : j = x
  · subst hjx; exact hun
  · rwa [getD_set_ne true hjx] at hq

theorem planOk_complete : ∀ {rest done : List Nat}, planOk ops done rest = true → ∀ i, i < ops.size → i ∈ done ∨ i ∈ rest
  | [], done, h, i, hi => by
    simp only [planOk, List.all_eq_true, List.mem_range, List.contains_eq_mem, decide_eq_true_eq] at h
    exact .inl (h i hi)
  | j :: rest, done, h, i, hi => by
    simp only [planOk, Bool.and_eq_true] at h
    rcases planOk_complete h.2 i hi with h1 | h1
    · cases h1 with
      | head => exact .inr List.mem_cons_self
      | tail _ h1 => exact .inl h1
    · exact .inr (List.mem_cons_of_mem _ h1)

theorem Inv.all_done (h : Inv C ops N n0 w0 base listed done f st a w g nm) (he : Region.ready .any ops listed = []) : ∀ d ∈ done, listed.getD d false = true := by
  have key : ∀ l : List Nat, Topo ops l → ∀ d ∈ l, d < ops.size → listed.getD d false = true := by
    intro l
    induction l with
    | nil => intro _ d hd; cases hd
    | cons x l ih =>
      intro ht d hd hlt
      cases hd with
      | tail _ hd => exact ih ht.2 d hd hlt
      | head =>
        obtain ⟨o, ho, h1, h2⟩ := readyAt_spec.1 ht.1
        cases hl : listed.getD x false with
        | true => rfl
        | false =>
          exfalso
          have hlt' : x < listed.size := by rw [h.size]; exact hlt
          have : x ∈ Region.ready .any ops listed := mem_ready.2 ⟨by simpa [hlt'] using hl, o, ho, fun e hme hb => by
            have hmem := h2 e hme hb
            have hes : e.on < ops.size := by
              -- it stands in the list: it is an operation
              have : ∀ l : List Nat, Topo ops l → ∀ y ∈ l, y < ops.size := by
                intro l
                induction l with
                | nil => intro _ y hy; cases hy
                | cons z l ih2 =>
                  intro ht y hy
                  cases hy with
                  | head => obtain ⟨oz, hoz, _⟩ := readyAt_spec.1 ht.1; exact lt_of_at hoz
                  | tail _ hy => exact ih2 ht.2 y hy
              exact this l ht.2 _ hmem
            exact ih ht.2 _ hmem hes⟩
          rw [he] at this; cases this
  intro d hd
  have : ∀ l : List Nat, Topo ops l → ∀ y ∈ l, y < ops.size := by
    intro l
    induction l with
    | nil => intro _ y hy; cases hy
    | cons z l ih2 =>
      intro ht y hy
      cases hy with
      | head => obtain ⟨oz, hoz, _⟩ := readyAt_spec.1 ht.1; exact lt_of_at hoz
      | tail _ hy => exact ih2 ht.2 y hy
  exact key done h.topo d hd (this done h.topo d hd)

theorem predsL_waits {j d : Nat} (h : d ∈ predsL ops j) : waits ops j d = true := by
  unfold predsL at h
  unfold waits
  cases ho : ops[j]? with
  | none => rw [ho] at h; cases h
  | some o =>
    rw [ho] at h
    obtain ⟨e, he, rfl⟩ := List.mem_map.1 h
    obtain ⟨h1, h2⟩ := List.mem_filter.1 he
    exact List.any_eq_true.2 ⟨e, h1, by rw [h2]; simp⟩
theorem closeP_listed {listed : Array Bool} (hc : ∀ j i, listed.getD j false = true → waits ops j i = true → listed.getD i false = true) : ∀ (m : Nat) (S : List Nat), (∀ d ∈ S, listed.getD d false = true) → ∀ d ∈ closeP ops m S, listed.getD d false = true
  | 0, S, h, d, hd => h d hd
  | m + 1, S, h, d, hd => by
    refine closeP_listed hc m _ (fun x hx => ?_) d hd
    split at hx
    · rename_i hm
      rcases List.mem_append.1 hx with hx | hx
      · exact hc m x (h m (by simpa using hm)) (predsL_waits hx)
      · exact h x hx
    · exact h x hx
theorem beforeL_listed {listed : Array Bool} (hc : ∀ j i, listed.getD j false = true → waits ops j i = true → listed.getD i false = true) {i : Nat} (hp : ∀ p, waits ops i p = true → listed.getD p false = true) : ∀ d ∈ beforeL ops i, listed.getD d false = true :=
  closeP_listed hc _ _ fun d hd => hp d (predsL_waits hd)

/-- One operation that may change memory, done by both. -/
theorem Inv.write (hC : COk C) (hK : KOk C K) (hall : opsOk N ops = true) (h : Inv C ops N n0 w0 base listed done f st a w g nm) {i : Nat} {o : Oper} (ho : ops[i]? = some o) (hr : readyAt ops done i = true) (hh : hoistAt ops i = false)
    (hj : i ∈ Region.ready .any ops listed) {f' : Fr} {st' : St} (hrun : (wantedV f ops o = some false ∧ f' = f.put o.dst (.tup []) ∧ st' = st) ∨ (wantedV f ops o = some true ∧ ∃ v, (if hoist o.op then quietOp C f st o.op else wrOp C K (evalO C f) st o.op) = some (v, st') ∧ f' = f.put o.dst v ∧
      (done.filter fun d => !(beforeL ops i).contains d && hoistAt ops d && (match ops[d]? with | .some p => heapDep p.op | .none => false)).all (stillOk C (f.put o.dst v) st' ops) = true))
    {Q : Exit → Act → World → Prop} {Kc : Act → World → Prop} (hKc : ∀ a' w' g', Inv C ops N n0 w0 base (listed.setIfInBounds i true) (i :: done) f' st' a' w' g' nm → Ext n0 g g' → Kc a' w') : wpOp C.P ops Q i Kc a w := by
  have hpre := pre_of_ready hj
  have hi : i ∉ done := (readyAt_spec.1 hr).choose_spec.2.1
  have hlooks := h.looks ho hpre
  have hw : ∀ b, wantedV f ops o = some b → Region.wanted o (yielded ops a.tmps) = b := fun b hb =>
    wantedV_sound (fun i hi => hlooks i (looks_guard hi)) (fun i hi => h.guard_lt hall o i hi) hb
  have hm := masked_VR (C := C) h.gl hlooks
  unfold wpOp
  rw [ho]
  simp only
  rcases hrun with ⟨hwf, rfl, rfl⟩ | ⟨hwt, v, hrun, rfl, hstill⟩
  · rw [if_neg (by rw [hw _ hwf]; simp)]
    refine hKc _ _ g (h.wrote hall ho hr hh hpre (VR_undef g) h.gr (Ext.refl _ _) (Nat.le_refl _) fun d hd hu hl => ?_) (Ext.refl _ _)
    exact hl.keep (h.others ho hi hh hpre _ d hd hu) (fun _ _ x => x) (Nat.le_refl _) (fun _ _ x y _ => ⟨x, y⟩)
  · rw [if_pos (hw _ hwt)]
    refine .inl ?_
    have after : ∀ g' v' w', Ext st.n g g' → VR g' v v' → GR g' st' w0 base w' → st.n ≤ st'.n → Kc (a.put o.dst v') w' := fun g' v' w' e1 e2 e3 e4 =>
      hKc _ _ g' (h.wrote hall ho hr hh hpre e2 e3 e1 e4 fun d hd hu hl => hl.write (h.others ho hi hh hpre _ d hd hu) (fun p hp hdep => by
        refine List.all_eq_true.1 hstill d (List.mem_filter.2 ⟨hd, ?_⟩)
        have hwd : (beforeL ops i).contains d = false := by
          cases hx : (beforeL ops i).contains d with
          | false => rfl
          | true => rw [beforeL_listed h.closed hpre d (by simpa using hx)] at hu; cases hu
        rw [hwd, (h.late d hd hu).1, hp]
        simpa using hdep) e4 e1.old) (e1.mono h.n0le)
    split at hrun
    · rw [quietOp_masked] at hrun
      have hn : st.n ≤ st'.n := by
        split at hrun
        · cases hrun; exact Nat.le_refl _
        · split at hrun
          · cases hrun; exact add_n _ _
          · cases hrun
      split at hrun
      · rename_i u hu
        cases hrun
        obtain ⟨v', h1, h2⟩ := rd_sound hC h.gr hm o hu
        unfold Oper.wp
        rw [h1, Oper.upon_value]
        exact after g v' w (Ext.refl _ _) h2 h.gr hn
      · split at hrun
        · rename_i u ob hu
          cases hrun
          have hl := h.gr.lim st.n (Nat.le_refl _)
          obtain ⟨v', w', g', h1, h2, h3, h4, h5⟩ := al_sound (C := C) (h.gr.add ob) hm o hu (fun x hx => by subst hx; exact ⟨by simp [St.add, hget], by simp [St.add], hl.1, hl.2⟩)
          unfold Oper.wp
          rw [h1, Oper.upon_value]
          exact after g' v' w' ⟨h2, fun i hi => h5 i (.inl (by omega))⟩ h3 h4 hn
        · cases hrun
    · rw [wrOp_congr (masked_eq (C := C))] at hrun
      exact wr_sound hC hK h.gr h.gl o hm hrun Kc Q fun g' v' w' e1 e2 e3 => after g' v' w' e1 e2 e3 (wrOp_n hK hrun)

/-- **Whatever the order.** -/
theorem plan_sound (hC : COk C) (hK : KOk C K) (hall : opsOk N ops = true) (Q : Exit → Act → World → Prop) {ff : Fr} {sf : St} : ∀ (fuel : Nat) (rest done : List Nat) (listed : Array Bool) (f : Fr) (st : St) (a : Act) (w : World) (g : Ghost) (nm : Nat → Option Nat),
    Inv C ops N n0 w0 base listed done f st a w g nm → runPlan C K ops done rest f st = some (ff, sf) → planOk ops done rest = true → cnt ops listed ≤ fuel →
    (∀ g' a' w', Ext n0 g g' → FR g' ff a' → GR g' sf w0 base w' → a'.tmps.size = N → Q .normal a' w') → wpAny C.P .any ops Q fuel listed a w := by
  intro fuel
  induction fuel with
  | zero =>
    intro rest done listed f st a w g nm h hrun hplan hcnt hQ
    have he : Region.ready .any ops listed = [] := by
      cases hr : Region.ready .any ops listed with
      | nil => rfl
      | cons j js =>
        have hj : j ∈ Region.ready .any ops listed := by rw [hr]; exact List.mem_cons_self
        have := cnt_set hj h.size
        omega
    refine ⟨he, ?_⟩
    have hd := h.all_done he
    cases rest with
    | nil =>
      simp only [runPlan, Option.some.injEq, Prod.mk.injEq] at hrun
      obtain ⟨rfl, rfl⟩ := hrun
      exact hQ g a w (Ext.refl _ _) ⟨fun t => h.fr t (fun d hdd hu => by rw [hd d hdd] at hu; cases hu), h.dr⟩ h.gr h.tm
    | cons i rest =>
      exfalso
      simp only [planOk, Bool.and_eq_true] at hplan
      obtain ⟨o, ho, h1, h2⟩ := readyAt_spec.1 hplan.1.1.1
      have hlt : i < listed.size := by rw [h.size]; exact lt_of_at ho
      have hun : listed.getD i false = false := by
        cases hl : listed.getD i false with
        | false => rfl
        | true => exact absurd (h.sub i hl) h1
      have : i ∈ Region.ready .any ops listed := mem_ready.2 ⟨by simpa [hlt] using hun, o, ho, fun e hme hb => hd _ (h2 e hme hb)⟩
      rw [he] at this; cases this
  | succ fuel ih =>
    intro rest done listed f st a w g nm h hrun hplan hcnt hQ
    refine ⟨fun he => ?_, fun j hj => ?_⟩
    · have hd := h.all_done he
      cases rest with
      | nil =>
        simp only [runPlan, Option.some.injEq, Prod.mk.injEq] at hrun
        obtain ⟨rfl, rfl⟩ := hrun
        exact hQ g a w (Ext.refl _ _) ⟨fun t => h.fr t (fun d hdd hu => by rw [hd d hdd] at hu; cases hu), h.dr⟩ h.gr h.tm
      | cons i rest =>
        exfalso
        simp only [planOk, Bool.and_eq_true] at hplan
        obtain ⟨o, ho, h1, h2⟩ := readyAt_spec.1 hplan.1.1.1
        have hlt : i < listed.size := by rw [h.size]; exact lt_of_at ho
        have hun : listed.getD i false = false := by
          cases hl : listed.getD i false with
          | false => rfl
          | true => exact absurd (h.sub i hl) h1
        have : i ∈ Region.ready .any ops listed := mem_ready.2 ⟨by simpa [hlt] using hun, o, ho, fun e hme hb => hd _ (h2 e hme hb)⟩
        rw [he] at this; cases this
    · have hcnt' : cnt ops (listed.setIfInBounds j true) ≤ fuel := by have := cnt_set hj h.size; omega
      -- go ahead until it is done
      have main : ∀ (rest done : List Nat) (f : Fr) (st : St) (nm : Nat → Option Nat), Inv C ops N n0 w0 base listed done f st a w g nm → runPlan C K ops done rest f st = some (ff, sf) → planOk ops done rest = true →
          wpOp C.P ops Q j (wpAny C.P .any ops Q fuel (listed.setIfInBounds j true)) a w := by
        intro rest
        induction rest with
        | nil =>
          intro done f st nm h hrun hplan
          obtain ⟨_, o, ho, _⟩ := mem_ready.1 hj
          have hjd : j ∈ done := (planOk_complete hplan j (lt_of_at ho)).resolve_right (by simp)
          exact h.catch_up hC hall hj hjd fun a' w' g' h' e => ih _ _ _ _ _ _ _ g' nm h' hrun hplan hcnt' fun g2 a2 w2 e2 => hQ g2 a2 w2 (e.trans e2 (Nat.le_refl _))
        | cons i rest ihr =>
          intro done f st nm h hrun hplan
          by_cases hjd : j ∈ done
          · exact h.catch_up hC hall hj hjd fun a' w' g' h' e => ih _ _ _ _ _ _ _ g' nm h' hrun hplan hcnt' fun g2 a2 w2 e2 => hQ g2 a2 w2 (e.trans e2 (Nat.le_refl _))
          · have hplan0 := hplan
            simp only [planOk, Bool.and_eq_true, decide_eq_true_eq] at hplan
            obtain ⟨⟨⟨hr, hlt⟩, hif⟩, hrest⟩ := hplan
            obtain ⟨o, ho, _, _⟩ := readyAt_spec.1 hr
            simp only [runPlan, ho] at hrun
            by_cases hh : hoistAt ops i = true
            · rw [if_pos hh] at hif
              have hp : ∀ j, j < ops.size → pairOk ops i j = true ∧ pairOk2 ops i j = true := fun j hj => by
                have := List.all_eq_true.1 hif j (List.mem_range.2 hj)
                simpa [Bool.and_eq_true] using this
              split at hrun
              · rename_i hwf
                exact ihr _ _ _ _ (h.ahead ho hr hh hp (v := .tup []) (n' := none) (.inl rfl) (.inl ⟨hwf, rfl, rfl, rfl⟩)) hrun hrest
              · cases hrun
              · rename_i hwt
                rw [if_pos hh] at hrun
                split at hrun
                · rename_i v st2 hq
                  unfold quietOp at hq
                  split at hq
                  · rename_i u hu
                    cases hq
                    exact ihr _ _ _ _ (h.ahead ho hr hh hp (n' := none) (.inl rfl) (.inr ⟨hwt, .inl ⟨hu, rfl, rfl⟩⟩)) hrun hrest
                  · split at hq
                    · rename_i u ob hu
                      cases hq
                      refine ihr _ _ _ _ (h.ahead ho hr hh hp (n' := ob.map fun _ => st.n) ?_ (.inr ⟨hwt, .inr ⟨ob, hu, rfl, rfl⟩⟩)) hrun hrest
                      cases ob with
                      | none => exact .inl rfl
                      | some ob => exact .inr ⟨ob, rfl⟩
                    · cases hq
                · cases hrun
            · have hhF : hoistAt ops i = false := by simpa using hh
              rw [if_neg hh] at hif
              simp only [Bool.and_eq_true] at hif
              -- nothing else may come up now
              have hji : j = i := by
                obtain ⟨_, oj, hoj, _⟩ := mem_ready.1 hj
                rcases planOk_complete hplan0 j (lt_of_at hoj) with h1 | h1
                · exact absurd h1 hjd
                · cases h1 with
                  | head => rfl
                  | tail _ h1 =>
                    exfalso
                    have := List.all_eq_true.1 hif.2 j h1
                    rw [hoj] at this
                    obtain ⟨e, he, hb⟩ := List.any_eq_true.1 this
                    simp only [Bool.and_eq_true, Bool.not_eq_true', List.contains_eq_mem, decide_eq_false_iff_not] at hb
                    have hl := pre_of_ready hj e.on (waits_spec.2 ⟨oj, hoj, e, by simpa using he, hb.1, rfl⟩)
                    exact hb.2 (h.sub _ hl)
              subst hji
              split at hrun
              · rename_i hwf
                exact h.write hC hK hall ho hr hhF hj (.inl ⟨hwf, rfl, rfl⟩) fun a' w' g' h' e => ih _ _ _ _ _ _ _ g' nm h' hrun hrest hcnt' fun g2 a2 w2 e2 => hQ g2 a2 w2 (e.trans e2 (Nat.le_refl _))
              · cases hrun
              · rename_i hwt
                rw [if_neg hh] at hrun
                split at hrun
                · rename_i v st2 hq
                  split at hrun
                  · rename_i hstill
                    exact h.write hC hK hall ho hr hhF hj (.inr ⟨hwt, v, hq, rfl, hstill⟩) fun a' w' g' h' e => ih _ _ _ _ _ _ _ g' nm h' hrun hrest hcnt' fun g2 a2 w2 e2 => hQ g2 a2 w2 (e.trans e2 (Nat.le_refl _))
                  · cases hrun
                · cases hrun
      exact main rest done f st nm h hrun hplan

/-- Bytes of a constant text at a region's start. -/
theorem pair_sound (hC : COk C) (hK : KOk C K) (hall : opsOk N ops = true) {Q : Exit → Act → World → Prop} (hG : GR g st w0 base w) (hgl : GlobR C g w0 base) (hf : FR g f a) (hN : a.tmps.size = N) {f2 f' : Fr} {rest : List Oper} {st' : St}
    (hp : pairV C f ops.toList = some (f2, rest)) (h : runOps C K ops rest f2 st = some (f', st')) (hQ : ∀ g' a' w', Ext st.n g g' → FR g' f' a' → GR g' st' w0 base w' → a'.tmps.size = N → Q .normal a' w') : wpList C.P ops Q ops.toList a w := by
  unfold pairV at hp
  split at hp
  · rename_i o o2 r hl
    split at hp
    · rename_i t len parts s s2 x d d2 h1 h2 h3 h4 h5 h6
      split at hp
      · rename_i hc
        obtain ⟨rfl, rfl, rfl, he⟩ := hc
        rename_i s
        cases hb : buildSliceV C s2 len (parts.toList.map fun (i, x) => (i, evalO C f x)) with
        | none => rw [hb] at hp; cases hp
        | some v =>
          rw [hb] at hp
          simp only [Option.map_some, Option.some.injEq, Prod.mk.injEq] at hp
          obtain ⟨rfl, rfl⟩ := hp
          have hρ := hf.eval (C := C) hgl
          have hpr : PartsR g (parts.toList.map fun (i, x) => (i, evalO C f x)) (parts.map fun (i, x) => (i, a.eval x)).toList := by rw [Array.toList_map]; exact PartsR.of hρ parts.toList
          obtain ⟨vs, elem, g', k1, k2, k3, k4, k5, k6⟩ := buildSliceV_row hG hb hpr
          unfold bytesT at he
          rw [k2] at he
          have hmem : ∀ p ∈ o :: o2 :: r, p ∈ ops.toList := fun p hp => by rw [hl]; exact hp
          have hd : x < a.tmps.size := by rw [hN]; exact opsOk_dst hall (hmem o List.mem_cons_self) h3
          have hd2 : d2 < a.tmps.size := by rw [hN]; exact opsOk_dst hall (hmem o2 (List.mem_cons_of_mem _ List.mem_cons_self)) h4
          rw [hl]
          refine wpList_step fun Kc hKc => ?_
          rw [if_pos (by simp [Region.wanted, h5])]
          unfold Oper.wp
          rw [show (execOp a.eval o).run C.P w = .ok (.value (.slice (some ⟨w.heap.size, 0, none⟩) len len)) (w.alloc (.cells vs elem)) by simp only [execOp, h1, Sem.run_bind, k1, Result.andThen_ok, Sem.run_pure], Oper.upon_value]
          refine hKc _ _ (wpList_step fun Kd hKd => ?_)
          rw [if_pos (by simp [Region.wanted, h6])]
          unfold Oper.wp
          have hev : (a.put o.dst (.slice (some ⟨w.heap.size, 0, none⟩) len len)).eval (.tmp x) = .slice (some ⟨w.heap.size, 0, none⟩) len len := by
            rw [h3]; simp [Act.eval, Act.put, hd]
          rw [show (execOp (a.put o.dst (.slice (some ⟨w.heap.size, 0, none⟩) len len)).eval o2).run C.P (w.alloc (.cells vs elem)) = .ok (.value (.slice (some ⟨w.heap.size, 0, none⟩) len len)) (w.alloc (.cells vs elem (vs.size, vs.size + 1))) by
            simp only [execOp, h2, hev, Sem.run_bind, Go.Lib.run_convert_bytes_const w s2 elem vs len len k2 (isU8_spec he), Result.andThen_ok, Sem.run_pure], Oper.upon_value]
          have e : Ext st.n g g' := ⟨k3, fun i _ => k6 i⟩
          refine hKd _ _ (runOps_sound hC hK ops hall Q r (fun p hp => hmem p (List.mem_cons_of_mem _ (List.mem_cons_of_mem _ hp))) (k5 _) (hgl.mono k3) ?_ ?_ h (fun g2 a2 w2 e2 => hQ g2 a2 w2 (e.trans e2 (Nat.le_refl _))))
          · have f1 : FR g' (f.put (some x) v) (a.put o.dst (.slice (some ⟨w.heap.size, 0, none⟩) len len)) := by rw [h3]; exact (hf.mono k3).put (fun d' e => by cases e; exact hd) k4
            have hsz : (a.put o.dst (.slice (some ⟨w.heap.size, 0, none⟩) len len)).tmps.size = a.tmps.size := size_put _ _ _
            rw [h4]
            exact f1.put (fun d' e => by cases e; rw [hsz]; exact hd2) k4
          · rw [size_put, size_put]; exact hN
      · cases hp
    · cases hp
  · cases hp

/-- **A region.** -/
theorem region_sound (hC : COk C) (hK : KOk C K) (hall : opsOk N ops = true) {id : Nat} {draw : Bool} {Q : Exit → Act → World → Prop} (hG : GR g st w0 base w) (hgl : GlobR C g w0 base) (hf : FR g f a) (hN : a.tmps.size = N) {f' : Fr} {st' : St}
    (h : runRegion C K ops draw f st = some (f', st')) (hQ : ∀ g' a' w', Ext st.n g g' → FR g' f' a' → GR g' st' w0 base w' → a'.tmps.size = N → Q .normal a' w') : (Code.region id ops draw).wp C.P Q a w := by
  unfold runRegion at h
  cases draw with
  | false =>
    simp only [Bool.false_eq_true, if_false] at h
    split at h
    · rename_i f2 rest hp
      exact wp_region_list (pair_sound hC hK hall hG hgl hf hN hp h hQ)
    · exact wp_region_list (runOps_sound hC hK ops hall Q ops.toList (fun _ h => h) hG hgl hf hN h hQ)
  | true =>
    simp only [if_true] at h
    split at h
    · rename_i hp
      refine wp_region_any hC.mixed ?_
      refine plan_sound (n0 := st.n) hC hK hall Q ops.size (plan ops) [] (Array.replicate ops.size false) f st a w.drew g (fun _ => none) ⟨by simp, fun i hi => ?_, fun j i hj => ?_, trivial, (fun d hd => by cases hd), (fun d hd => by cases hd), (fun d hd => by cases hd), hG.drew, hgl, fun t _ => hf.t t, hf.d, hN, Nat.le_refl _⟩ h hp ?_ hQ
      · rw [show (Array.replicate ops.size false).getD i false = false by simp [Array.getElem?_replicate]; split <;> rfl] at hi; cases hi
      · rw [show (Array.replicate ops.size false).getD j false = false by simp [Array.getElem?_replicate]; split <;> rfl] at hj; cases hj
      · unfold cnt; exact Nat.le_trans (List.length_filter_le _ _) (by simp)
    · cases h
end
end Go.Vm
/- What the evaluator answers, the model answers: code and calls. -/
namespace Go.Vm
open Go Go.RowKit

section
variable {C : Cfg} {K : FuncId → List V → St → Option (V × St)} {N : Nat} {w0 : W0} {base : Nat}

def exR : Ex → Exit
  | .normal => .normal
  | .ret => .ret
  | .exit id => .exit id
  | .goto l => .goto l

/-- What holds behind a piece of code. -/
def Post (C : Cfg) (N : Nat) (n0 : Nat) (g0 : Ghost) (w0 : W0) (base : Nat) (e : Ex) (f : Fr) (st : St) : Exit → Act → World → Prop := fun x a w =>
  ∃ g, x = exR e ∧ Ext n0 g0 g ∧ GR g st w0 base w ∧ FR g f a ∧ a.tmps.size = N

theorem runPlan_n (hK : KOk C K) (ops : Array Oper) : ∀ (rest done : List Nat) {f f' : Fr} {st st' : St}, runPlan C K ops done rest f st = some (f', st') → st.n ≤ st'.n
  | [], done, f, f', st, st', h => by simp only [runPlan, Option.some.injEq, Prod.mk.injEq] at h; rw [h.2]; exact Nat.le_refl _
  | i :: rest, done, f, f', st, st', h => by
    simp only [runPlan] at h
    split at h
    · cases h
    · split at h
      · exact runPlan_n hK ops rest _ h
      · cases h
      · split at h
        · split at h
          · rename_i hq; exact Nat.le_trans (quietOp_n hq) (runPlan_n hK ops rest _ h)
          · cases h
        · split at h
          · rename_i hq
            split at h
            · split at hq
              · exact Nat.le_trans (quietOp_n hq) (runPlan_n hK ops rest _ h)
              · exact Nat.le_trans (wrOp_n hK hq) (runPlan_n hK ops rest _ h)
            · cases h
          · cases h

theorem runRegion_n (hK : KOk C K) {ops : Array Oper} {draw : Bool} {f f' : Fr} {st st' : St} (h : runRegion C K ops draw f st = some (f', st')) : st.n ≤ st'.n := by
  unfold runRegion at h
  split at h
  · split at h
    · exact runPlan_n hK ops _ _ h
    · cases h
  · split at h
    · exact runOps_n hK ops _ h
    · exact runOps_n hK ops _ h

/-- Code that runs in a scope's body. -/
def SW (P : Program) (body c : Code) (Q : Exit → Act → World → Prop) (a : Act) (w : World) : Prop :=
  ∀ (b : Frame) (k : List Item) (cs : List Frame), ∃ e a' w', Q e a' w' ∧ Arrives P (lone (b.at a (.code c :: .inScope body :: k)) cs w) b k cs e a' w'

theorem wp_scope_of {P : Program} {c : Code} {Q : Exit → Act → World → Prop} {a : Act} {w : World} (h : SW P c c Q a w) : (Code.scope c).wp P Q a w := by
  intro b k cs
  obtain ⟨e, a', w', hq, harr⟩ := h b k cs
  exact ⟨e, a', w', hq, .of_steps (.one step_scope) harr⟩

theorem codeOk_find : ∀ {c : Code} {l : Nat} {rest : Code}, findLabel c l = some rest → codeOk N c = true → codeOk N rest = true
  | .seq a b, l, rest, h, hc => by
    simp only [codeOk, Bool.and_eq_true] at hc
    simp only [findLabel] at h
    cases ha : findLabel a l with
    | some r =>
      rw [ha] at h; cases h
      simp only [codeOk, Bool.and_eq_true]
      exact ⟨codeOk_find ha hc.1, hc.2⟩
    | none => rw [ha] at h; exact codeOk_find h hc.2
  | .label l', l, rest, h, hc => by
    simp only [findLabel] at h
    split at h
    · cases h; rfl
    · cases h
  | .skip, _, _, h, _ => by cases h
  | .region _ _ _, _, _, h, _ => by cases h
  | .cond _ _ _, _, _, h, _ => by cases h
  | .block _ _, _, _, h, _ => by cases h
  | .loop _, _, _, h, _ => by cases h
  | .rangeFunc _ _ _ _, _, _, h, _ => by cases h
  | .exit _, _, _, h, _ => by cases h
  | .scope _, _, _, h, _ => by cases h
  | .goto _, _, _, h, _ => by cases h
  | .ret, _, _, h, _ => by cases h
  | .refuse _, _, _, h, _ => by cases h

theorem exec_n (hK : KOk C K) : ∀ (n : Nat), (∀ {c : Code} {f f' : Fr} {st st' : St} {e : Ex}, exec C K n c f st = some (e, f', st') → st.n ≤ st'.n) ∧
    (∀ {b c : Code} {f f' : Fr} {st st' : St} {e : Ex}, inScope C K n b c f st = some (e, f', st') → st.n ≤ st'.n) := by
  intro n
  induction n with
  | zero => exact ⟨fun h => by simp [exec] at h, fun h => by simp [inScope] at h⟩
  | succ n ih =>
    refine ⟨fun {c f f' st st' e} h => ?_, fun {b c f f' st st' e} h => ?_⟩
    · cases c <;> simp only [exec, Option.some.injEq, Prod.mk.injEq, reduceCtorEq] at h
      case skip => rw [h.2.2]; exact Nat.le_refl _
      case label => rw [h.2.2]; exact Nat.le_refl _
      case ret => rw [h.2.2]; exact Nat.le_refl _
      case exit => rw [h.2.2]; exact Nat.le_refl _
      case goto => rw [h.2.2]; exact Nat.le_refl _
      case region id ops draw =>
        cases hr : runRegion C K ops draw f st with
        | none => rw [hr] at h; cases h
        | some r => rw [hr] at h; cases h; exact runRegion_n hK hr
      case seq a b =>
        split at h
        · rename_i h1; exact Nat.le_trans (ih.1 h1) (ih.1 h)
        · exact ih.1 h
      case cond c a b =>
        split at h
        · exact ih.1 h
        · cases h
      case block id b =>
        split at h
        · rename_i h1; cases h; exact ih.1 h1
        · exact ih.1 h
      case loop b =>
        split at h
        · rename_i h1; exact Nat.le_trans (ih.1 h1) (ih.1 h)
        · exact ih.1 h
      case scope b => exact ih.2 h
    · simp only [inScope] at h
      split at h
      · rename_i h1
        split at h
        · exact Nat.le_trans (ih.1 h1) (ih.2 h)
        · cases h; exact ih.1 h1
      · exact ih.1 h

/-- Code that runs round a loop. -/
def LW (P : Program) (c : Code) (Q : Exit → Act → World → Prop) (a : Act) (w : World) : Prop :=
  ∀ (b : Frame) (k : List Item) (cs : List Frame), ∃ e a' w', Q e a' w' ∧ Arrives P (lone (b.at a (.code c :: .inLoop c :: k)) cs w) b k cs e a' w'

theorem wp_loop_of {P : Program} {c : Code} {Q : Exit → Act → World → Prop} {a : Act} {w : World} (h : LW P c Q a w) : (Code.loop c).wp P Q a w := by
  intro b k cs
  obtain ⟨e, a', w', hq, harr⟩ := h b k cs
  exact ⟨e, a', w', hq, .of_steps (.one step_loop) harr⟩

/-- **Code.** -/
theorem exec_sound (hC : COk C) (hK : KOk C K) : ∀ (n : Nat),
    (∀ {c : Code} {f f' : Fr} {st st' : St} {e : Ex}, exec C K n c f st = some (e, f', st') → codeOk N c = true → ∀ {g : Ghost} {w : World} {a : Act}, GR g st w0 base w → GlobR C g w0 base → FR g f a → a.tmps.size = N →
      c.wp C.P (Post C N st.n g w0 base e f' st') a w) ∧
    (∀ {b c : Code} {f f' : Fr} {st st' : St} {e : Ex}, inScope C K n b c f st = some (e, f', st') → codeOk N b = true → codeOk N c = true → ∀ {g : Ghost} {w : World} {a : Act}, GR g st w0 base w → GlobR C g w0 base → FR g f a → a.tmps.size = N →
      SW C.P b c (Post C N st.n g w0 base e f' st') a w) ∧
    (∀ {c : Code} {f f' : Fr} {st st' : St} {e : Ex}, exec C K n (.loop c) f st = some (e, f', st') → codeOk N c = true → ∀ {g : Ghost} {w : World} {a : Act}, GR g st w0 base w → GlobR C g w0 base → FR g f a → a.tmps.size = N →
      LW C.P c (Post C N st.n g w0 base e f' st') a w) := by
  intro n
  induction n with
  | zero => exact ⟨fun h => by simp [exec] at h, fun h => by simp [inScope] at h, fun h => by simp [exec] at h⟩
  | succ n ih =>
    have hloop : ∀ {c : Code} {f f' : Fr} {st st' : St} {e : Ex}, exec C K (n + 1) (.loop c) f st = some (e, f', st') → codeOk N c = true → ∀ {g : Ghost} {w : World} {a : Act}, GR g st w0 base w → GlobR C g w0 base → FR g f a → a.tmps.size = N →
      LW C.P c (Post C N st.n g w0 base e f' st') a w := by
      intro c f f' st st' e h hc g w a hG hgl hf hN
      simp only [exec] at h
      split at h
      · rename_i f1 st1 h1
        intro b' k cs
        obtain ⟨x1, a1, w1, ⟨g1, hx, e1, e2, e3, e4⟩, harr⟩ := ih.1 h1 hc hG hgl hf hN b' (.inLoop c :: k) cs
        subst hx
        obtain ⟨x2, a2, w2, ⟨g2, hx2, k1, k2, k3, k4⟩, harr2⟩ := ih.2.2 h hc e2 (hgl.mono e1.le) e3 e4 b' k cs
        exact ⟨x2, a2, w2, ⟨g2, hx2, e1.trans k1 ((exec_n hK n).1 h1), k2, k3, k4⟩, .of_steps (Steps.trans harr (.one step_inLoop)) harr2⟩
      · rename_i hne
        intro b' k cs
        obtain ⟨x1, a1, w1, hp, harr⟩ := ih.1 h hc hG hgl hf hN b' (.inLoop c :: k) cs
        have hp2 := hp
        obtain ⟨g1, hx, _⟩ := hp2
        subst hx
        cases e
        case normal => exact absurd h (hne _ _)
        all_goals exact ⟨_, a1, w1, hp, .pass (x := .inLoop c) rfl (fun _ _ => .inl (by simp [exR])) harr⟩
    refine ⟨fun {c f f' st st' e} h hc {g w a} hG hgl hf hN => ?_, fun {b c f f' st st' e} h hb hc {g w a} hG hgl hf hN => ?_, hloop⟩
    · cases c <;> try (simp only [exec, Option.some.injEq, Prod.mk.injEq, reduceCtorEq] at h; done)
      case skip => simp only [exec, Option.some.injEq, Prod.mk.injEq] at h; obtain ⟨rfl, rfl, rfl⟩ := h; exact wp_skip ⟨g, rfl, Ext.refl _ _, hG, hf, hN⟩
      case label => simp only [exec, Option.some.injEq, Prod.mk.injEq] at h; obtain ⟨rfl, rfl, rfl⟩ := h; exact wp_label ⟨g, rfl, Ext.refl _ _, hG, hf, hN⟩
      case ret => simp only [exec, Option.some.injEq, Prod.mk.injEq] at h; obtain ⟨rfl, rfl, rfl⟩ := h; exact wp_ret ⟨g, rfl, Ext.refl _ _, hG, hf, hN⟩
      case exit => simp only [exec, Option.some.injEq, Prod.mk.injEq] at h; obtain ⟨rfl, rfl, rfl⟩ := h; exact wp_exit ⟨g, rfl, Ext.refl _ _, hG, hf, hN⟩
      case goto => simp only [exec, Option.some.injEq, Prod.mk.injEq] at h; obtain ⟨rfl, rfl, rfl⟩ := h; exact wp_goto ⟨g, rfl, Ext.refl _ _, hG, hf, hN⟩
      case region id ops draw =>
        simp only [exec] at h
        cases hr : runRegion C K ops draw f st with
        | none => rw [hr] at h; cases h
        | some r =>
          rw [hr] at h; cases h
          exact region_sound hC hK hc hG hgl hf hN hr fun g' a' w' e1 e2 e3 e4 => ⟨g', rfl, e1, e3, e2, e4⟩
      case seq x y =>
        simp only [exec] at h
        simp only [codeOk, Bool.and_eq_true] at hc
        split at h
        · rename_i f1 st1 h1
          refine wp_seq (wp_mono (ih.1 h1 hc.1 hG hgl hf hN) fun x' a' w' ⟨g1, hx, e1, e2, e3, e4⟩ => ?_)
          subst hx
          refine wp_mono (ih.1 h hc.2 e2 (hgl.mono e1.le) e3 e4) fun x2 a2 w2 ⟨g2, hx, k1, k2, k3, k4⟩ => ⟨g2, hx, e1.trans k1 ((exec_n hK n).1 h1), k2, k3, k4⟩
        · rename_i hne
          refine wp_seq (wp_mono (ih.1 h hc.1 hG hgl hf hN) fun x' a' w' hp => ?_)
          have hp2 := hp
          obtain ⟨g1, hx, _⟩ := hp2
          subst hx
          cases e
          case normal => exact absurd h (hne _ _)
          all_goals exact hp
      case cond c x y =>
        simp only [exec] at h
        simp only [codeOk, Bool.and_eq_true] at hc
        split at h
        · rename_i t ht
          have hv := hf.eval (C := C) hgl c
          rw [ht] at hv
          simp only [VR] at hv
          refine wp_cond hv ?_
          cases t
          · exact ih.1 h hc.2 hG hgl hf hN
          · exact ih.1 h hc.1 hG hgl hf hN
        · cases h
      case block id b =>
        simp only [exec] at h
        split at h
        · rename_i id' f1 st1 h1
          cases h
          refine wp_block (wp_mono (ih.1 h1 hc hG hgl hf hN) fun x' a' w' ⟨g1, hx, e1, e2, e3, e4⟩ => ?_)
          subst hx
          simp only [exR, Exit.inBlock]
          by_cases hid : id' = id
          · simp only [hid, if_true]; exact ⟨g1, rfl, e1, e2, e3, e4⟩
          · simp only [hid, if_false]; exact ⟨g1, rfl, e1, e2, e3, e4⟩
        · rename_i hne
          refine wp_block (wp_mono (ih.1 h hc hG hgl hf hN) fun x' a' w' hp => ?_)
          have hp2 := hp
          obtain ⟨g1, hx, _⟩ := hp2
          subst hx
          cases e
          case exit id' => exact absurd h (hne _ _ _)
          all_goals exact hp
      case loop b => exact wp_loop_of (hloop h hc hG hgl hf hN)
      case scope b => simp only [exec] at h; exact wp_scope_of (ih.2.1 h hc hc hG hgl hf hN)
    · simp only [inScope] at h
      intro b' k cs
      split at h
      · rename_i l f1 st1 h1
        obtain ⟨x1, a1, w1, hp, harr⟩ := ih.1 h1 hc hG hgl hf hN b' (.inScope b :: k) cs
        have hp2 := hp
        obtain ⟨g1, hx, e1, e2, e3, e4⟩ := hp2
        subst hx
        split at h
        · rename_i rest hfl
          obtain ⟨x2, a2, w2, ⟨g2, hx2, k1, k2, k3, k4⟩, harr2⟩ := ih.2.1 h hb (codeOk_find hfl hb) e2 (hgl.mono e1.le) e3 e4 b' k cs
          exact ⟨x2, a2, w2, ⟨g2, hx2, e1.trans k1 ((exec_n hK n).1 h1), k2, k3, k4⟩, .of_steps (harr _ (by simp [gotoIn, hfl])) harr2⟩
        · rename_i hfl
          cases h
          exact ⟨_, a1, w1, hp, fun k' hk => harr k' (by simp [gotoIn, hfl, hk])⟩
      · rename_i hne
        obtain ⟨x1, a1, w1, hp, harr⟩ := ih.1 h hc hG hgl hf hN b' (.inScope b :: k) cs
        have hp2 := hp
        obtain ⟨g1, hx, _⟩ := hp2
        subst hx
        cases e
        case goto l => exact absurd h (hne _ _ _)
        case normal => exact ⟨_, a1, w1, hp, Steps.trans harr (.one step_inScope)⟩
        case ret => exact ⟨_, a1, w1, hp, harr⟩
        case exit id => exact ⟨_, a1, w1, hp, fun k' hk => harr k' (by simp [exitTo, hk])⟩
end
end Go.Vm
/- What the evaluator answers, the model answers: calls. -/
namespace Go.Vm
open Go Go.RowKit

/-! ### Memory that never changes any more -/
section
variable {g g' : Ghost} {H : List (Nat × Ob)} {n0 : Nat}

def FrzR (g g' : Ghost) (n0 : Nat) (H : List (Nat × Ob)) : Prop :=
  ∀ b cs B, n0 ≤ b → hget H b = some (.cells cs) → g.κ b = some B → ∃ vs : List Value, VRs g cs vs ∧ g'.row B 0 vs

theorem VRs.mapF {F : V → V} (hF : ∀ v x, VR g v x → VR g' (F v) x) : ∀ {cs : List V} {vs : List Value}, VRs g cs vs → VRs g' (cs.map F) vs
  | [], _, h => h
  | c :: cs, vs, h => by
    simp only [VRs] at h; obtain ⟨u, vs', rfl, h1, h2, h⟩ := h
    simp only [List.map_cons, VRs]; exact ⟨u, _, rfl, h1, hF _ _ h2, VRs.mapF hF h⟩

theorem VRl.mapF {F : V → V} (hF : ∀ v x, VR g v x → VR g' (F v) x) : ∀ {cs : List V} {vs : List Value}, VRl g cs vs → VRl g' (cs.map F) vs
  | [], _, h => h
  | c :: cs, vs, h => by
    simp only [VRl] at h; obtain ⟨u, vs', rfl, h2, h⟩ := h
    simp only [List.map_cons, VRl]; exact ⟨u, _, rfl, hF _ _ h2, VRl.mapF hF h⟩

theorem VC.to_VR {x : V} {v : Value} (hv : v.oneCell' = true) (h : VR g x v) : VC g x [v] := by
  cases x
  case agg cs => obtain ⟨vs, rfl, _⟩ := h; cases hv
  all_goals exact ⟨v, rfl, hv, h⟩

theorem VRs_VRe1 : ∀ {cs : List V} {vs : List Value}, VRs g cs vs → VRe g 1 cs vs
  | [], _, h => h
  | c :: cs, vs, h => by
    simp only [VRs] at h; obtain ⟨u, vs', rfl, h1, h2, h⟩ := h
    have := VC.to_VR h1 h2
    exact VRe_cons.2 ⟨[u], vs', rfl, rfl, by rw [this.ncells]; rfl, this, VRs_VRe1 h⟩

theorem VRe_chunks {S : Nat} : ∀ {len : Nat} {cs : List V} {vs : List Value}, VRs g cs vs → len * S ≤ cs.length → VRe g S (chunks S len cs) (vs.take (len * S))
  | 0, cs, vs, _, _ => by simp [chunks, VRe]
  | len + 1, cs, vs, h, hl => by
    have hl2 : len * S + S ≤ cs.length := by rw [Nat.succ_mul] at hl; exact hl
    have hs : (cs.take S).length = S := by rw [List.length_take]; omega
    have hd : len * S ≤ (cs.drop S).length := by rw [List.length_drop]; omega
    refine VRe_cons.2 ⟨vs.take S, (vs.drop S).take (len * S), ?_, ?_, ?_, ?_, VRe_chunks (h.drop S) hd⟩
    · rw [Nat.succ_mul, Nat.add_comm, List.take_add]
    · have := h.length; rw [List.length_take]; omega
    · show (cs.take S).length = S
      exact hs
    · exact h.take S
theorem chunks_length {S : Nat} : ∀ {len : Nat} {cs : List V}, (chunks S len cs).length = len
  | 0, _ => rfl
  | len + 1, cs => by rw [chunks, List.length_cons, chunks_length]
theorem VC.frz (k : Nat) (IH : ∀ v x, VR g v x → VR g' (Vm.frz n0 H k v) x) (hm : g.le g') {x : V} {ch : List Value} (hi : Vm.frz n0 H (k + 1) x = x ∨ True) (h : VC g x ch) (IH2 : ∀ v x, VR g v x → VR g' (Vm.frz n0 H (k+1) v) x) : VC g' (Vm.frz n0 H (k+1) x) ch := by
  cases x
  case agg cs =>
    simp only [Vm.frz, VC] at h ⊢
    exact VRs.mapF IH h
  all_goals
    obtain ⟨v, rfl, h2, h3⟩ := h
    exact VC.to_VR h2 (IH2 _ _ h3)

theorem VR.frz (hm : g.le g') (hf : FrzR g g' n0 H) : ∀ (k : Nat) (v : V) (x : Value), VR g v x → VR g' (Vm.frz n0 H k v) x := by
  intro k
  induction k with
  | zero => intro v x h; exact h.mono hm
  | succ k ih =>
    intro v x h
    have hve : ∀ {S : Nat} {xs : List V} {vs : List Value}, VRe g S xs vs → VRe g' S (xs.map (Vm.frz n0 H k)) vs := by
      intro S xs
      induction xs with
      | nil => intro vs h; exact h
      | cons y ys ihx =>
        intro vs h
        obtain ⟨ch, vs', rfl, h1, h2, h3, h4⟩ := VRe_cons.1 h
        have hc : VC g' (Vm.frz n0 H k y) ch := by
          cases y
          case agg cs =>
            cases k with
            | zero => exact VC.mono hm h3
            | succ k =>
              simp only [Vm.frz, VC] at h3 ⊢
              refine VRs.mapF (fun v x hv => ?_) h3
              have := ih (.tup [v]) (.tuple #[x]) ⟨#[x], rfl, x, [], rfl, hv, rfl⟩
              simp only [Vm.frz] at this
              obtain ⟨vs2, e, u, r, e2, hr, _⟩ := this
              cases e
              simp at e2
              rw [e2.1]; exact hr
          all_goals
            obtain ⟨v, rfl, k2, k3⟩ := h3
            exact VC.to_VR k2 (ih _ _ k3)
        exact VRe_cons.2 ⟨ch, vs', rfl, h1, by rw [hc.ncells]; exact h1, hc, ihx h4⟩
    cases v <;> simp only [Vm.frz]
    case ptr b off =>
      split
      · rename_i hb
        split
        · rename_i cs hg
          obtain ⟨B, hκ, rfl⟩ := h
          obtain ⟨vs, hv, hr⟩ := hf b cs B hb hg hκ
          exact ⟨B, off, vs.drop off, rfl, fun i v hi => by rw [List.getElem?_drop] at hi; have := hr _ _ hi; rwa [Nat.zero_add] at this, VRs.mapF ih (hv.drop off)⟩
        · exact h.mono hm
      · exact h.mono hm
    case msl b off len cap =>
      split
      · rename_i hb
        split
        · rename_i cs hg
          split
          · split
            · rename_i hle
              obtain ⟨B, hκ, cap', rfl, hc, hu⟩ := h
              obtain ⟨vs, hv, hr⟩ := hf b cs B hb hg hκ
              have hlen : (((cs.drop off).take len).map (Vm.frz n0 H k)).length = len := by simp; omega
              refine ⟨some ⟨B, off, none⟩, cap', (vs.drop off).take len, 1, by rw [hlen], hve (VRs_VRe1 ((hv.drop off).take len)), ?_, by rw [hlen]; exact hc, fun _ => ⟨B, off, rfl, fun i v hi => ?_⟩⟩
              · rw [hlen]; split
                · rename_i e; rcases hu with hu | hu | ⟨S, hu, _⟩
                  · exact hu.1 ▸ e.1
                  · rw [hu] at e; exact absurd e.2 (Nat.lt_irrefl _)
                  · rw [hu] at e; have e2 := e.2; unfold ownC unk at e2; omega
                · trivial
              · rw [List.getElem?_take] at hi
                split at hi
                · rw [List.getElem?_drop] at hi; have := hr _ _ hi; rwa [Nat.zero_add] at this
                · cases hi
            · exact h.mono hm
          · split
            · rename_i hle
              obtain ⟨B, hκ, cap', rfl, hc, hu⟩ := h
              obtain ⟨vs, hv, hr⟩ := hf b cs B hb hg hκ
              have hlen : ((chunks (sizeC cap) len (cs.drop off)).map (Vm.frz n0 H k)).length = len := by rw [List.length_map, chunks_length]
              refine ⟨some ⟨B, off, none⟩, cap', (vs.drop off).take (len * sizeC cap), sizeC cap, by rw [hlen], hve (VRe_chunks (hv.drop off) (by rw [List.length_drop]; omega)), trivial, by rw [hlen]; exact hc, fun _ => ⟨B, off, rfl, fun i v hi => ?_⟩⟩
              rw [List.getElem?_take] at hi
              split at hi
              · rw [List.getElem?_drop] at hi; have := hr _ _ hi; rwa [Nat.zero_add] at this
              · cases hi
            · exact h.mono hm
        · exact h.mono hm
      · exact h.mono hm
    case cptr cs => obtain ⟨B, o, vs, rfl, h1, h2⟩ := h; exact ⟨B, o, vs, rfl, h1.mono hm, VRs.mapF ih h2⟩
    case sl tip xs =>
      obtain ⟨a, cap, vs, S, rfl, h2, h3, h4, h5⟩ := h
      exact ⟨a, cap, vs, S, by rw [List.length_map], hve h2, by rw [List.length_map]; exact h3.mono hm, by rw [List.length_map]; exact h4, fun hx => let ⟨B, o, h6, h7⟩ := h5 (fun e => hx (by rw [e]; rfl)); ⟨B, o, h6, h7.mono hm⟩⟩
    case func fn fi ca => obtain ⟨fi', ca', rfl, h1, h2⟩ := h; exact ⟨fi', ca', rfl, VRl.mapF ih h1, VRl.mapF ih h2⟩
    case iface t y => obtain ⟨x', rfl, h1⟩ := h; exact ⟨x', rfl, ih _ _ h1⟩
    case agg cs => obtain ⟨vs, rfl, h1⟩ := h; exact ⟨vs, rfl, VRs.mapF ih h1⟩
    case tup cs => obtain ⟨vs, rfl, h1⟩ := h; exact ⟨vs, rfl, VRl.mapF ih h1⟩
    all_goals exact h.mono hm
end

section
variable {g : Ghost} {st : St} {w0 : W0} {base : Nat} {w : World}

open Classical in
noncomputable def Ghost.frozen (g : Ghost) (w : World) (n0 : Nat) (H : List (Nat × Ob)) : Ghost :=
  { g with st := fun B o => if ∃ b cs, n0 ≤ b ∧ hget H b = some (.cells cs) ∧ g.κ b = some B then w.cell? ⟨B, o, none⟩ else g.st B o }

theorem GR.freeze (h : GR g st w0 base w) (n0 : Nat) : g.le (g.frozen w n0 st.H) ∧ FrzR g (g.frozen w n0 st.H) n0 st.H ∧
    ∀ H', H'.Sublist st.H → (∀ p ∈ H', p.1 < n0 ∨ ∃ sz, p.2 = .tip sz) → GR (g.frozen w n0 st.H) ⟨H', st.n⟩ w0 base w := by
  have hle : g.le (g.frozen w n0 st.H) := by
    refine ⟨fun _ _ x => x, fun _ _ x => x, fun B o v hv => ?_⟩
    simp only [Ghost.frozen]
    split
    · exact h.stab _ _ _ hv
    · exact hv
  refine ⟨hle, fun b cs B hb hg hκ => ?_, fun H' hs hp => ?_⟩
  · obtain ⟨vs, m, e, fz, h1, h2, _⟩ := h.obj b _ B hg hκ
    refine ⟨vs.toList, h2, fun i v hi => ?_⟩
    simp only [Ghost.frozen]
    rw [if_pos ⟨b, cs, hb, hg, hκ⟩, Nat.zero_add]
    simp only [World.cell?, h1]
    have hlt : i < vs.size := by rw [← Array.length_toList]; exact (List.getElem?_eq_some_iff.1 hi).1
    rw [Array.getElem?_append_left hlt]
    simpa using hi
  · have hs' := h.sub hs (Nat.le_refl _)
    refine ⟨h.below, h.lim0, fun B o v hv => ?_, fun i ob B h1 h2 => ?_, hs'.excl, hs'.old, hs'.lim, hs'.sorted, hs'.top, fun B o hB => ?_⟩
    · simp only [Ghost.frozen] at hv
      split at hv
      · exact hv
      · exact h.stab _ _ _ hv
    · refine (hs'.obj i ob B h1 h2).keep hle rfl fun o ho => ?_
      simp only [Ghost.frozen]
      rw [if_neg, ho]
      rintro ⟨b, cs, hb, hg, hκ⟩
      have hi := h.sorted.sub_get hs h1
      have := h.excl i b _ _ B hi hg h2 hκ
      subst this
      rw [hg] at hi
      cases hi
      rcases hp _ (hget_mem h1) with hh | ⟨sz, hh⟩
      · simp at hh; omega
      · cases hh
    · simp only [Ghost.frozen]
      rw [if_neg]
      · exact h.lo B o hB
      · rintro ⟨b, cs, hb, hg, hκ⟩
        have := h.old b _ B hg hκ
        omega

theorem hdrop_lt : ∀ (n : Nat) {H : List (Nat × Ob)}, Sorted H → ∀ p ∈ hdrop n H, p.1 < n
  | n, [], _, p, hp => by cases hp
  | n, (j, q) :: r, hs, p, hp => by
    simp only [hdrop] at hp
    split at hp
    · exact hdrop_lt n (List.pairwise_cons.1 hs).2 p hp
    · cases hp with
      | head => simp; omega
      | tail _ hm => have := (List.pairwise_cons.1 hs).1 p hm; simp at this; omega

theorem hdrop_cons_sub {H : List (Nat × Ob)} (hs : Sorted H) {t n0 : Nat} {ob : Ob} (hg : hget H t = some ob) (hn : n0 ≤ t) : ((t, ob) :: hdrop n0 H).Sublist H := by
  induction H with
  | nil => cases hg
  | cons p r ih =>
    obtain ⟨j, q⟩ := p
    simp only [hget] at hg
    split at hg
    · rename_i e
      simp at e; subst e; cases hg
      simp only [hdrop, if_pos hn]
      exact (hdrop_sub n0 r).cons_cons _
    · have hp := List.pairwise_cons.1 hs
      have hj : t < j := by have := hp.1 _ (hget_mem hg); simpa using this
      simp only [hdrop, if_pos (show n0 ≤ j by omega)]
      exact (ih hp.2 hg).cons _

end

section
variable {C : Cfg}

/-- The caller's view of an answer. -/
theorem leaveV_sound {g : Ghost} {st : St} {w0 : W0} {base : Nat} {w : World} (hG : GR g st w0 base w) (k : FuncId) (n0 : Nat) {v v1 : V} {st1 : St} {x : Value} (hv : VR g v x) (h : leaveV C k n0 v st = (v1, st1)) :
    st1.n = st.n ∧ ∃ g', g.le g' ∧ (∀ i, g'.κ i = g.κ i ∧ g'.θ i = g.θ i) ∧ VR g' v1 x ∧ GR g' st1 w0 base w := by
  unfold leaveV at h
  have hv0 : VR g (if C.grow k then v else strip v) x := by
    split
    · exact hv
    · exact hv.strip
  obtain ⟨v0, hv0e⟩ : ∃ v0, v0 = (if C.grow k then v else strip v) := ⟨_, rfl⟩
  simp only [← hv0e] at h hv0
  split at h
  · cases h; exact ⟨rfl, g, Ghost.le.refl g, fun _ => ⟨rfl, rfl⟩, hv0, hG⟩
  · obtain ⟨f1, f2, f3⟩ := hG.freeze n0
    have hbase : ∃ g', g.le g' ∧ (∀ i, g'.κ i = g.κ i ∧ g'.θ i = g.θ i) ∧ VR g' (if C.frz k then frz n0 st.H st.n v0 else v0) x ∧
        ∀ H', H'.Sublist st.H → (∀ p ∈ H', p.1 < n0 ∨ ∃ sz, p.2 = .tip sz) → GR g' ⟨H', st.n⟩ w0 base w := by
      split
      · exact ⟨_, f1, fun _ => ⟨rfl, rfl⟩, VR.frz f1 f2 _ _ _ hv0, f3⟩
      · exact ⟨g, Ghost.le.refl g, fun _ => ⟨rfl, rfl⟩, hv0, fun H' hs _ => hG.sub hs (Nat.le_refl _)⟩
    obtain ⟨g', k1, k2, k3, k4⟩ := hbase
    obtain ⟨v2, hv2e⟩ : ∃ v2, v2 = (if C.frz k then frz n0 st.H st.n v0 else v0) := ⟨_, rfl⟩
    simp only [← hv2e] at h k3
    have hd : GR g' ⟨hdrop n0 st.H, st.n⟩ w0 base w := k4 _ (hdrop_sub n0 _) fun p hp => .inl (hdrop_lt n0 hG.sorted p hp)
    split at h
    · split at h
      · rename_i sz hg
        cases h
        refine ⟨rfl, g', k1, k2, k3, ?_⟩
        split
        · rename_i hn
          refine k4 _ (hdrop_cons_sub hG.sorted hg hn) fun p hp => ?_
          cases hp with
          | head => exact .inr ⟨_, rfl⟩
          | tail _ hp => exact .inl (hdrop_lt n0 hG.sorted p hp)
        · exact hd
      · cases h; exact ⟨rfl, g', k1, k2, k3, hd⟩
    · cases h; exact ⟨rfl, g', k1, k2, k3, hd⟩

/-! ### Entering and leaving -/
theorem initT_get : ∀ (i : Nat) (args : List V) (t : Nat), tget (initT i args) t = if i ≤ t ∧ t < i + args.length then args.getD (t - i) .any else tget [] t
  | i, [], t => by simp [initT]; omega
  | i, v :: vs, t => by
    simp only [initT, tget]
    by_cases h : i = t
    · subst h; simp
    · simp only [beq_iff_eq, h, if_false]
      rw [initT_get (i + 1) vs t]
      by_cases h2 : i + 1 ≤ t ∧ t < i + 1 + vs.length
      · rw [if_pos h2, if_pos (by simp; omega)]
        obtain ⟨j, rfl⟩ : ∃ j, t = i + 1 + j := ⟨t - (i + 1), by omega⟩
        simp [show i + 1 + j - (i + 1) = j by omega, show i + 1 + j - i = j + 1 by omega]
      · rw [if_neg h2, if_neg (by simp; omega)]; rfl

theorem FR_init {g : Ghost} {args : List V} {args' : Array Value} (h : VRl g args args'.toList) (n m : Nat) : FR g ⟨frame0 n args, []⟩ { tmps := args' ++ Array.replicate m undef, defers := [] } := by
  refine ⟨fun i => ?_, .nil⟩
  have hl := h.length
  simp only [frame0]
  rw [initT_get]
  by_cases hi : i < args.length
  · rw [if_pos ⟨Nat.zero_le _, by simp; omega⟩]
    obtain ⟨v, h1, h2⟩ := h.get (i := i) (c := args[i]) (by simp [hi])
    simp only [Array.length_toList] at hl
    rw [Array.getElem?_toList] at h1
    have e1 : (args ++ List.replicate (n - args.length) V.any).getD (i - 0) V.any = args[i] := by simp [hi, List.getElem?_append_left]
    have e2 : (args' ++ Array.replicate m undef).getD i undef = v := by
      rw [Array.getD_eq_getD_getElem?, Array.getElem?_append_left (by omega), h1]; rfl
    rw [e1]
    show VR g _ ((args' ++ Array.replicate m undef).getD i undef)
    rw [e2]; exact h2
  · split
    · rw [show (args ++ List.replicate (n - args.length) V.any).getD (i - 0) V.any = .any by
        rw [List.getD_eq_getElem?_getD, Nat.sub_zero, List.getElem?_append_right (by omega), List.getElem?_replicate]; split <;> rfl]
      trivial
    · trivial

theorem unownCell_VR {g : Ghost} {v : V} {x : Value} (h : VR g v x) : VR g (unownCell v) x := by
  unfold unownCell
  split
  · obtain ⟨a, cap, vs, S, h1, h2, h3, h4, h5⟩ := h; exact ⟨a, cap, vs, S, h1, h2, trivial, h4, h5⟩
  · exact h

theorem unown_VR {g : Ghost} {v : V} {x : Value} (h : VR g v x) : VR g (unown v) x := by
  unfold unown
  split
  · obtain ⟨vs, h1, h2⟩ := h
    refine ⟨vs, h1, ?_⟩
    exact VRs.mapF (fun v x h => unownCell_VR h) h2
  · exact unownCell_VR h

theorem resultsV_sound (hC : COk C) {g : Ghost} {st : St} {w0 : W0} {base : Nat} {w : World} (hG : GR g st w0 base w) {t : List (Nat × V)} {tmps : Array Value} (ht : ∀ i, VR g (tget t i) (tmps.getD i undef))
    : ∀ (rs : List ResultVar) {vs : List V}, resultsV C st.H t rs = some vs → ∃ xs : List Value,
      (∀ F : ResultVar → Sem Value, (∀ u, F (.tmp u) = pure (tmps.getD u undef)) → (∀ a ty, F (.cell a ty) = (do loadVar ty (← asAddr (tmps.getD a undef)))) → (rs.mapM F).run C.P w = .ok xs w) ∧ VRl g vs xs
  | [], vs, h => by cases h; exact ⟨[], fun F _ _ => by simp, rfl⟩
  | .tmp u :: rs, vs, h => by
    simp only [resultsV, Option.map_eq_some_iff] at h
    obtain ⟨vs1, h1, rfl⟩ := h
    obtain ⟨xs, h2, h3⟩ := resultsV_sound hC hG ht rs h1
    exact ⟨tmps.getD u undef :: xs, fun F hF1 hF2 => by rw [List.mapM_cons, hF1]; simp [h2 F hF1 hF2], _, _, rfl, ht u, h3⟩
  | .cell p ty :: rs, vs, h => by
    simp only [resultsV] at h
    split at h
    · rename_i v hv
      simp only [Option.map_eq_some_iff] at h
      obtain ⟨vs1, h1, rfl⟩ := h
      obtain ⟨xs, h2, h3⟩ := resultsV_sound hC hG ht rs h1
      obtain ⟨x, h4, h5⟩ := loadV_sound hG hv (ht p)
      refine ⟨x :: xs, fun F hF1 hF2 => ?_, _, _, rfl, h5, h3⟩
      rw [List.mapM_cons, hF2]
      have hp : ∃ ad, tmps.getD p undef = .pointer (some ad) := by
        have htp := ht p
        unfold loadV at hv
        split at hv
        · obtain ⟨B, o, vs, e, _⟩ := (by rename_i hx; rw [hx] at htp; exact htp); exact ⟨_, e⟩
        · rename_i hx; rw [hx] at htp; obtain ⟨B, _, e⟩ := htp; exact ⟨_, e⟩
        · cases hv
      obtain ⟨ad, had⟩ := hp
      rw [had] at h4 ⊢
      have h4' : (loadVar ty ad).run C.P w = .ok x w := by simpa only [Instr.loadAt, Instr.sureAddr, Sem.run_bind, Sem.run_pure, Result.andThen_ok] using h4
      simp [asAddr, h4', h2 F hF1 hF2]
    · cases h

/-- Functions known by what they answer. -/
def XOk (C : Cfg) : Prop := ∀ k args st v st', C.X k args st = some (v, st') → AC C k args st v st'

mutual
/-- A value that names no memory: what is known of names is not asked. -/
theorem VR.pureV {g g' : Ghost} (h : ∀ B o v, g.st B o = some v → g'.st B o = some v) : ∀ (v : V) (x : Value), Vm.pureV v = true → VR g v x → VR g' v x
  | .any, _, _, _ => trivial
  | .bool _, _, _, r => r
  | .int _ _, _, _, r => r
  | .str _, _, _, r => r
  | .ptr _ _, _, p, _ => by simp [Vm.pureV] at p
  | .cptr cs, _, p, ⟨B, o, vs, h1, h2, h3⟩ => ⟨B, o, vs, h1, fun i v hv => h _ _ _ (h2 i v hv), VRs.pureV h cs vs (by simpa [Vm.pureV] using p) h3⟩
  | .nilptr, _, _, r => r
  | .sl tip xs, _, p, ⟨a, cap, vs, S, h1, h2, h3, h4, h5⟩ => by
    have hp : Vm.pureVs xs = true := by cases tip <;> simp [Vm.pureV] at p <;> exact p
    refine ⟨a, cap, vs, S, h1, VRe.pureV h S xs vs hp h2, ?_, h4, fun hx => let ⟨B, o, h6, h7⟩ := h5 hx; ⟨B, o, h6, fun i v hv => h _ _ _ (h7 i v hv)⟩⟩
    cases tip
    · trivial
    · exact h3
    · simp [Vm.pureV] at p
  | .msl _ _ _ _, _, p, _ => by simp [Vm.pureV] at p
  | .map _, _, p, _ => by simp [Vm.pureV] at p
  | .nilmap, _, _, r => r
  | .func _ fi ca, _, p, ⟨fi', ca', h1, h2, h3⟩ => by
    simp only [Vm.pureV, Bool.and_eq_true] at p
    exact ⟨fi', ca', h1, VRl.pureV h fi fi'.toList p.1 h2, VRl.pureV h ca ca'.toList p.2 h3⟩
  | .nilfunc, _, _, r => r
  | .yield _, _, p, _ => by simp [Vm.pureV] at p
  | .iface _ x, _, p, ⟨x', h1, h2⟩ => ⟨x', h1, VR.pureV h x x' (by simpa [Vm.pureV] using p) h2⟩
  | .niliface, _, _, r => r
  | .agg cs, _, p, ⟨vs, h1, h2⟩ => ⟨vs, h1, VRs.pureV h cs vs.toList (by simpa [Vm.pureV] using p) h2⟩
  | .tup xs, _, p, ⟨vs, h1, h2⟩ => ⟨vs, h1, VRl.pureV h xs vs.toList (by simpa [Vm.pureV] using p) h2⟩
theorem VRs.pureV {g g' : Ghost} (h : ∀ B o v, g.st B o = some v → g'.st B o = some v) : ∀ (cs : List V) (vs : List Value), Vm.pureVs cs = true → VRs g cs vs → VRs g' cs vs
  | [], _, _, r => r
  | c :: cs, _, p, ⟨v, vs', h1, h2, h3, h4⟩ => by
    simp only [Vm.pureVs, Bool.and_eq_true] at p
    exact ⟨v, vs', h1, h2, VR.pureV h c v p.1 h3, VRs.pureV h cs vs' p.2 h4⟩
theorem VRl.pureV {g g' : Ghost} (h : ∀ B o v, g.st B o = some v → g'.st B o = some v) : ∀ (cs : List V) (vs : List Value), Vm.pureVs cs = true → VRl g cs vs → VRl g' cs vs
  | [], _, _, r => r
  | c :: cs, _, p, ⟨v, vs', h1, h3, h4⟩ => by
    simp only [Vm.pureVs, Bool.and_eq_true] at p
    exact ⟨v, vs', h1, VR.pureV h c v p.1 h3, VRl.pureV h cs vs' p.2 h4⟩
theorem VRe.pureV {g g' : Ghost} (h : ∀ B o v, g.st B o = some v → g'.st B o = some v) (S : Nat) : ∀ (xs : List V) (vs : List Value), Vm.pureVs xs = true → VRe g S xs vs → VRe g' S xs vs
  | [], _, _, r => r
  | x :: xs, vs, p, r => by
    simp only [Vm.pureVs, Bool.and_eq_true] at p
    obtain ⟨ch, vs', h1, h2, h3, h4, h5⟩ := VRe_cons.1 r
    refine VRe_cons.2 ⟨ch, vs', h1, h2, h3, ?_, VRe.pureV h S xs vs' p.2 h5⟩
    cases x with
    | agg cs => exact VRs.pureV h cs ch (by simpa [Vm.pureV] using p.1) h4
    | cptr cs => obtain ⟨v, a, b, B, o, ws, c, d, e⟩ := h4; exact ⟨v, a, b, B, o, ws, c, fun i v hv => h _ _ _ (d i v hv), VRs.pureV h cs ws (by simpa [Vm.pureV] using p.1) e⟩
    | sl tip ys =>
      obtain ⟨v, a, b, ad, cap, ws, T, k1, k2, k3, k4, k5⟩ := h4
      have hp : Vm.pureVs ys = true := by have := p.1; cases tip <;> simp [Vm.pureV] at this <;> exact this
      refine ⟨v, a, b, ad, cap, ws, T, k1, VRe.pureV h T ys ws hp k2, ?_, k4, fun hx => let ⟨B, o, h6, h7⟩ := k5 hx; ⟨B, o, h6, fun i v hv => h _ _ _ (h7 i v hv)⟩⟩
      cases tip
      · trivial
      · exact k3
      · have := p.1; simp [Vm.pureV] at this
    | func fn fi ca =>
      obtain ⟨v, a, b, fi', ca', c, d, e⟩ := h4
      have := p.1
      simp only [Vm.pureV, Bool.and_eq_true] at this
      exact ⟨v, a, b, fi', ca', c, VRl.pureV h fi fi'.toList this.1 d, VRl.pureV h ca ca'.toList this.2 e⟩
    | iface t y => obtain ⟨v, a, b, x', c, d⟩ := h4; exact ⟨v, a, b, x', c, VR.pureV h y x' (by simpa [Vm.pureV] using p.1) d⟩
    | tup ys => obtain ⟨v, a, b, ws, c, d⟩ := h4; exact ⟨v, a, b, ws, c, VRl.pureV h ys ws.toList (by simpa [Vm.pureV] using p.1) d⟩
    | ptr _ _ => have := p.1; simp [Vm.pureV] at this
    | msl _ _ _ _ => have := p.1; simp [Vm.pureV] at this
    | map _ => have := p.1; simp [Vm.pureV] at this
    | yield _ => have := p.1; simp [Vm.pureV] at this
    | any => obtain ⟨v, a, b, c⟩ := h4; exact ⟨v, a, b, trivial⟩
    | bool _ => exact h4
    | int _ _ => exact h4
    | str _ => exact h4
    | nilptr => exact h4
    | nilmap => exact h4
    | nilfunc => exact h4
    | niliface => exact h4
end

/-- What package-level variables are names no memory of the evaluator's. -/
def GlobPure (C : Cfg) : Prop := ∀ i, pureV (C.glob i) = true

/-- A body that is run, and what it leaves. -/
theorem body_sound (hC : COk C) {n : Nat} (ih : KOk C (callF C n)) {k : FuncId} {fn : Func} {c : Code} (hfn : C.P.funcs[k]? = some fn) (hb : fn.body = some c) {args : List V} {st st2 : St} (hlen : args.length ≤ fn.ntmps) {e : Ex} {f' : Fr} {vs : List V}
    (hex : exec C (callF C n) n c ⟨frame0 fn.ntmps args, []⟩ st = some (e, f', st2)) (he : e = .normal ∨ e = .ret) (hd : f'.d.isEmpty = true) (hvs : resultsV C st2.H f'.t fn.results.toList = some vs) {v : V} {st' : St} (hl : leaveV C k st.n (packV vs) st2 = (v, st')) : AC C k args st v st' := by
  have hn := (exec_n ih n).1 hex
  have hn1 : st'.n = st2.n := by
    unfold leaveV at hl
    dsimp only at hl
    split at hl
    · cases hl; rfl
    · split at hl
      · split at hl <;> (cases hl; rfl)
      · cases hl; rfl
  refine ⟨by rw [hn1]; exact hn, ⟨fn, hfn, by rw [hb]; rfl⟩, fun g w0 base w args' hG hgl hargs => ?_⟩
  have hal := hargs.length
  simp only [Array.length_toList] at hal
  have hok : codeOk fn.ntmps c = true := by
    have := hC.funcs
    have := List.all_eq_true.1 this fn (by rw [← Array.getElem?_toList] at hfn; exact List.mem_of_getElem? hfn)
    simp only [funcOk, hb, Bool.and_eq_true] at this; exact this.1
  refine calls_of_wp hfn hb (wp_mono ((exec_sound hC ih n).1 hex hok hG hgl (FR_init hargs _ _) (by simp; omega)) ?_)
  rintro x a w' ⟨g1, hx, e1, e2, e3, e4⟩
  subst hx
  have hdef : a.defers = [] := by
    have := e3.d
    have hd' : f'.d = [] := by simpa using hd
    rw [hd'] at this
    generalize a.defers = ds at this
    cases this; rfl
  obtain ⟨xs, h2, h3⟩ := resultsV_sound hC e2 e3.t _ hvs
  have hxl := h3.length
  have hres : ∃ x, (results fn a.tmps).run C.P w' = .ok x w' ∧ VR g1 (packV vs) x := by
    refine ⟨if h : xs.toArray.size = 1 then xs.toArray[0] else .tuple xs.toArray, ?_, ?_⟩
    · unfold results
      rw [show fn.results = fn.results.toList.toArray from rfl, List.mapM_toArray]
      simp only [Sem.run_bind, Sem.run_map]
      rw [h2 _ (fun _ => rfl) (fun _ _ => rfl)]
      simp
    · match vs, h3 with
      | [], h3 => simp only [VRl] at h3; subst h3; exact ⟨#[], rfl, rfl⟩
      | [v], h3 =>
        obtain ⟨u, r, e, hu, hr⟩ := h3
        simp only [VRl] at hr
        subst hr; subst e
        exact hu
      | a :: b :: vs, h3 =>
        have := h3.length
        rw [dif_neg (by simp only [List.size_toArray, ← this, List.length_cons]; omega)]
        exact ⟨xs.toArray, rfl, by simpa using h3⟩
  obtain ⟨x, hx, hxv⟩ := hres
  obtain ⟨l1, g2, l2, l3, l4, l5⟩ := leaveV_sound e2 k st.n hxv hl
  have fin : a.defers = [] ∧ ∃ v', (results fn a.tmps).run C.P w' = .ok v' w' ∧ ∃ v'' g', Ending.returned v' = .returned v'' ∧ Ext st.n g g' ∧ VR g' v v'' ∧ GR g' st' w0 base w' :=
    ⟨hdef, x, hx, x, g2, rfl, ⟨e1.le.trans l2, fun i hi => ⟨(l3 i).1.trans (e1.old i hi).1, (l3 i).2.trans (e1.old i hi).2⟩⟩, l4, l5⟩
  rcases he with rfl | rfl
  · exact fin
  · exact fin

/-- A call with a memory of its own. -/
theorem fresh_sound (hC : COk C) (hP : GlobPure C) {k : FuncId} {args : List V} {v : V} {st1 : St} (h : AC C k (args.map unown) ⟨[], 0⟩ v st1) (ha : pureVs (args.map unown) = true) (hv : pureV v = true) (st : St) : AC C k args st v st := by
  obtain ⟨_, h2, h3⟩ := h
  refine ⟨Nat.le_refl _, h2, fun g w0 base w args' hG hgl hargs => ?_⟩
  obtain ⟨g0, hg0⟩ : ∃ g0 : Ghost, g0 = { κ := fun _ => none, θ := fun _ => none, st := g.st } := ⟨_, rfl⟩
  have hst : ∀ B o v, g.st B o = some v → g0.st B o = some v := fun B o v hv => by rw [hg0]; exact hv
  have hG0 : GR g0 ⟨[], 0⟩ ⟨w, g.st⟩ w.heap.size w := by
    subst hg0
    exact ⟨Below.refl _ _, Nat.le_refl _, hG.stab, fun i ob B hi _ => by simp [hget] at hi, fun i j oi oj B hi _ _ _ => by simp [hget] at hi, fun i ob B hi => by simp [hget] at hi, fun _ _ => ⟨rfl, rfl⟩, List.Pairwise.nil, fun p hp => (by cases hp), fun _ _ _ => rfl⟩
  have hgl0 : GlobR C g0 ⟨w, g.st⟩ w.heap.size := ⟨fun i => (hgl.vr i).pureV hst _ _ (hP i), hC.inv _ _ (fun k hk => hG.below.block k (Nat.lt_of_lt_of_le hk hgl.lo)) hgl.inv, Nat.le_trans hgl.lo hG.lim0⟩
  refine (h3 g0 _ _ w args' hG0 hgl0 (VRl.pureV hst _ _ ha (VRl.mapF (fun v x h => unown_VR h) hargs))).mono fun e w' ⟨x, g2, he, hext, hvr, hG2⟩ => ?_
  obtain ⟨g', hg'⟩ : ∃ g' : Ghost, g' = { κ := g.κ, θ := g.θ, st := g2.st } := ⟨_, rfl⟩
  have hle : g.le g' := by
    subst hg'
    exact ⟨fun _ _ h => h, fun _ _ h => h, fun B o v hv => hext.le.st _ _ _ (hst B o v hv)⟩
  have hblk : ∀ B, B < w.heap.size → w'.heap[B]? = w.heap[B]? := fun B hB => hG2.below.block B hB
  refine ⟨x, g', he, ⟨hle, fun i _ => by rw [hg']; exact ⟨rfl, rfl⟩⟩, VR.pureV (fun B o v hv => by rw [hg']; exact hv) _ _ hv hvr, ?_⟩
  have hlt : ∀ i ob B, hget st.H i = some ob → g'.κ i = some B → B < w.heap.size ∧ g.κ i = some B := fun i ob B hi hκ => by
    have hκ' : g.κ i = some B := by rw [hg'] at hκ; exact hκ
    exact ⟨(hG.obj i ob B hi hκ').lt, hκ'⟩
  refine ⟨⟨hG2.below.os.trans hG.below.os, hG2.below.tape.trans hG.below.tape, hG2.below.output.trans hG.below.output, Nat.le_trans hG.below.size hG2.below.size, fun k hk => (hblk k (Nat.lt_of_lt_of_le hk hG.lim0)).trans (hG.below.block k hk)⟩,
    Nat.le_trans hG.lim0 hG2.below.size, fun B o v hv => hG2.stab B o v (by rw [hg'] at hv; exact hv), fun i ob B hi hκ => ?_, fun i j oi oj B hi hj hκi hκj => hG.excl i j oi oj B hi hj (hlt i oi B hi hκi).2 (hlt j oj B hj hκj).2,
    fun i ob B hi hκ => hG.old i ob B hi (hlt i ob B hi hκ).2, fun i hi => by rw [hg']; exact hG.lim i hi, hG.sorted, hG.top, fun B o hB => ?_⟩
  · obtain ⟨hB, hκ'⟩ := hlt i ob B hi hκ
    refine (hG.obj i ob B hi hκ').keep hle (hblk B hB) (fun o ho => ?_) (by rw [hg']; exact fun _ h => h)
    rw [hg']
    exact (hG2.lo B o hB).trans ho
  · rw [hg']
    exact (hG2.lo B o (Nat.lt_of_lt_of_le hB hG.lim0)).trans (hG.lo B o hB)

/-- **Calls.** -/
theorem callF_sound (hC : COk C) (hP : GlobPure C) (hX : XOk C) : ∀ n, KOk C (callF C n) := by
  intro n
  induction n with
  | zero => intro k args st v st' h; simp [callF] at h
  | succ n ih =>
    intro k args st v st' h
    simp only [callF] at h
    split at h
    · rename_i r hr
      cases h
      exact hX _ _ _ _ _ hr
    · split at h
      · cases h
      · rename_i fn hfn
        split at h
        · cases h
        · rename_i c hb
          split at h
          · rename_i hlen
            split at h
            · split at h
              · rename_i ha
                split at h
                · rename_i e f' st2 hex
                  split at h
                  · rename_i hok
                    split at h
                    · rename_i vs hvs
                      split at h
                      · rename_i hv
                        cases h
                        exact fresh_sound hC hP (body_sound hC ih hfn hb (by simpa using hlen) hex hok.1 hok.2 hvs rfl) ha hv _
                      · cases h
                    · cases h
                  · cases h
                · cases h
              · cases h
            · split at h
              · rename_i e f' st2 hex
                split at h
                · rename_i hok
                  split at h
                  · rename_i vs hvs
                    exact body_sound hC ih hfn hb hlen hex hok.1 hok.2 hvs (Option.some.inj h)
                  · cases h
                · cases h
              · cases h
          · cases h
end
end Go.Vm
