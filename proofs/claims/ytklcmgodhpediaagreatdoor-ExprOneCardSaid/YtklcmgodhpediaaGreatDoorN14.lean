/- Regions whose order is open: the whole. -/
import Derived.Test.YtklcmgodhpediaaGreatDoorN13
import Derived.Lib.SlBytesConst
set_option linter.unusedSimpArgs false
set_option linter.unusedVariables false
namespace Go.Vm
open Go Go.RowKit

section
variable {C : Cfg} {K : FuncId → List V → St → Option (V × St)} {ops : Array Oper} {N n0 : Nat} {w0 : W0} {base : Nat}
variable {listed : Array Bool} {done : List Nat} {f : Fr} {st : St} {a : Act} {w : World} {g : Ghost} {nm : Nat → Option Nat}

theorem Inv.others (h : Inv C ops N n0 w0 base listed done f st a w g nm) {i : Nat} {o : Oper} (ho : ops[i]? = some o) (hi : i ∉ done) (hh : hoistAt ops i = false) (hpre : ∀ p, waits ops i p = true → listed.getD p false = true) (v : V) :
    ∀ d ∈ done, listed.getD d false = false → ∀ p, ops[d]? = some p → (∀ t ∈ p.looksAt ops, tget (f.put o.dst v).t t = tget f.t t) ∧ ∀ t, p.dst = some t → tget (f.put o.dst v).t t = tget f.t t := by
  intro d hd hu p hpd
  have hhd := (h.late d hd hu).1
  have hp := h.pairs d hd hhd i (lt_of_at ho)
  have hne : i ≠ d := fun e => hi (e ▸ hd)
  refine ⟨fun t ht => tget_put_ne fun hdst => ?_, fun t ht => tget_put_ne fun hdst => ?_⟩
  · rcases pair2 hp.2 (dstIs_spec.2 ⟨o, ho, hdst⟩) (looksB_spec.2 ⟨p, hpd, ht⟩) with h1 | h1 | h1
    · rw [hh] at h1; cases h1
    · exact hi (h.topo.pred hd h1)
    · rw [hpre d h1] at hu; cases hu
  · have := (pair3 hp.1 (dstIs_spec.2 ⟨p, hpd, ht⟩) (dstIs_spec.2 ⟨o, ho, hdst⟩) hne).2
    rw [hpre d this] at hu; cases hu

/-- Both do an operation that may change memory. -/
theorem Inv.wrote (h : Inv C ops N n0 w0 base listed done f st a w g nm) (hall : opsOk N ops = true) {i : Nat} {o : Oper} (ho : ops[i]? = some o) (hr : readyAt ops done i = true) (hh : hoistAt ops i = false)
    (hpre : ∀ p, waits ops i p = true → listed.getD p false = true) {v : V} {v' : Value} {st' : St} {w' : World} {g' : Ghost} (hv : VR g' v v') (hG : GR g' st' w0 base w') (hext : Ext st.n g g') (hn : st.n ≤ st'.n)
    (hlz : ∀ d ∈ done, listed.getD d false = false → Lz C ops f st g n0 (nm d) d → Lz C ops (f.put o.dst v) st' g' n0 (nm d) d) :
    Inv C ops N n0 w0 base (listed.setIfInBounds i true) (i :: done) (f.put o.dst v) st' (a.put o.dst v') w' g' nm := by
  have hi : i ∉ done := (readyAt_spec.1 hr).choose_spec.2.1
  have hlt : i < listed.size := by rw [h.size]; exact lt_of_at ho
  refine ⟨by simpa using h.size, fun j hj => ?_, fun j p hj hp => ?_, ⟨hr, h.topo⟩, fun d hd hhd => ?_, fun d hd hu => ?_, fun d hd e he hdu heu => ?_, hG, h.gl.mono hext.le, fun t ht => ?_, by rw [put_defs, put_d]; exact h.dr.mono hext.le, by rw [size_put]; exact h.tm, Nat.le_trans h.n0le hn⟩
  · by_cases hij : i = j
    · subst hij; exact List.mem_cons_self
    · rw [getD_listed_ne hij] at hj; exact List.mem_cons_of_mem _ (h.sub j hj)
  · by_cases hij : i = j
    · subst hij; exact getD_set_true (hpre p hp)
    · rw [getD_listed_ne hij] at hj; exact getD_set_true (h.closed j p hj hp)
  · cases hd with
    | head => rw [hh] at hhd; cases hhd
    | tail _ hd => exact h.pairs d hd hhd
  · have hdi : i ≠ d := fun e => by subst e; rw [getD_listed_eq hlt] at hu; cases hu
    rw [getD_listed_ne hdi] at hu
    cases hd with
    | head => exact absurd rfl hdi
    | tail _ hd =>
      obtain ⟨k1, k2⟩ := h.late d hd hu
      exact ⟨k1, hlz d hd hu k2⟩
  · have hdi : i ≠ d := fun x => by subst x; rw [getD_listed_eq hlt] at hdu; cases hdu
    have hei : i ≠ e := fun x => by subst x; rw [getD_listed_eq hlt] at heu; cases heu
    rw [getD_listed_ne hdi] at hdu
    rw [getD_listed_ne hei] at heu
    cases hd with
    | head => exact absurd rfl hdi
    | tail _ hd =>
      cases he with
      | head => exact absurd rfl hei
      | tail _ he => exact h.uniq d hd e he hdu heu
  · by_cases hdt : o.dst = some t
    · rw [hdt, getD_put a (h.dst_lt hall ho hdt) v' t, if_pos rfl, tget_put_eq]; exact hv
    · rw [tget_put_ne hdt]
      have h1 : (a.put o.dst v').tmps.getD t undef = a.tmps.getD t undef := by
        cases hd : o.dst with
        | none => rfl
        | some d => rw [getD_put a (h.dst_lt hall ho hd) v' t, if_neg]; intro e; subst e; exact hdt hd
      rw [h1]
      refine (h.fr t fun d hd hu => ?_).mono hext.le
      have hdi : i ≠ d := fun e => hi (e ▸ hd)
      exact ht d (List.mem_cons_of_mem _ hd) (by rw [getD_listed_ne hdi]; exact hu)

theorem pre_of_ready {j : Nat} (hj : j ∈ Region.ready .any ops listed) : ∀ i, waits ops j i = true → listed.getD i false = true := by
  obtain ⟨hun, o, ho, hpre⟩ := mem_ready.1 hj
  intro i hw
  obtain ⟨o', ho', e, he, hb, rfl⟩ := waits_spec.1 hw
  rw [ho] at ho'; cases ho'
  exact hpre e he hb

/-! ### How many are left -/
def cnt (ops : Array Oper) (listed : Array Bool) : Nat := ((List.range ops.size).filter fun i => !listed.getD i true).length

theorem filter_length_lt {p q : Nat → Bool} {l : List Nat} (h : ∀ x ∈ l, q x = true → p x = true) {y : Nat} (hy : y ∈ l) (hp : p y = true) (hq : q y = false) : (l.filter q).length < (l.filter p).length := by
  induction l with
  | nil => cases hy
  | cons x l ih =>
    have hl : ∀ z ∈ l, q z = true → p z = true := fun z hz => h z (List.mem_cons_of_mem _ hz)
    have hle : ∀ l : List Nat, (∀ z ∈ l, q z = true → p z = true) → (l.filter q).length ≤ (l.filter p).length := by
      intro l
      induction l with
      | nil => intro _; simp
      | cons z l ih =>
        intro h
        have := ih fun u hu => h u (List.mem_cons_of_mem _ hu)
        simp only [List.filter_cons]
        split
        · rename_i hqz; rw [if_pos (h z List.mem_cons_self hqz)]; simp; omega
        · split
          · simp; omega
          · exact this
    simp only [List.filter_cons]
    cases hy with
    | head =>
      rw [hp, hq]
      have := hle l hl
      simp; omega
    | tail _ hy =>
      have := ih hl hy
      split
      · rename_i hqx; rw [if_pos (h x List.mem_cons_self hqx)]; simp; omega
      · split
        · simp; omega
        · exact this

theorem cnt_set {j : Nat} (hj : j ∈ Region.ready .any ops listed) (hs : listed.size = ops.size) : cnt ops (listed.setIfInBounds j true) < cnt ops listed := by
  obtain ⟨hun, o, ho, _⟩ := mem_ready.1 hj
  have hlt := lt_of_at ho
  refine filter_length_lt (y := j) (fun x hx hq => ?_) (List.mem_range.2 hlt) (by simp [hun]) (by simp [hs, hlt])
  simp only [Bool.not_eq_true'] at hq ⊢
  by_cases hjx : j = x
  · subst hjx; exact hun
  · rwa [getD_set_ne true hjx] at hq

theorem planOk_complete : ∀ {rest done : List Nat}, planOk ops done rest = true → ∀ i, i < ops.size → i ∈ done ∨ i ∈ rest
  | [], done, h, i, hi => by
    simp only [planOk, List.all_eq_true, List.mem_range, List.contains_eq_mem, decide_eq_true_eq] at h
    exact .inl (h i hi)
  | j :: rest, done, h, i, hi => by
    simp only [planOk, Bool.and_eq_true] at h
    rcases planOk_complete h.2 i hi with h1 | h1
    · cases h1 with
      | head => exact .inr List.mem_cons_self
      | tail _ h1 => exact .inl h1
    · exact .inr (List.mem_cons_of_mem _ h1)

theorem Inv.all_done (h : Inv C ops N n0 w0 base listed done f st a w g nm) (he : Region.ready .any ops listed = []) : ∀ d ∈ done, listed.getD d false = true := by
  have key : ∀ l : List Nat, Topo ops l → ∀ d ∈ l, d < ops.size → listed.getD d false = true := by
    intro l
    induction l with
    | nil => intro _ d hd; cases hd
    | cons x l ih =>
      intro ht d hd hlt
      cases hd with
      | tail _ hd => exact ih ht.2 d hd hlt
      | head =>
        obtain ⟨o, ho, h1, h2⟩ := readyAt_spec.1 ht.1
        cases hl : listed.getD x false with
        | true => rfl
        | false =>
          exfalso
          have hlt' : x < listed.size := by rw [h.size]; exact hlt
          have : x ∈ Region.ready .any ops listed := mem_ready.2 ⟨by simpa [hlt'] using hl, o, ho, fun e hme hb => by
            have hmem := h2 e hme hb
            have hes : e.on < ops.size := by
              -- it stands in the list: it is an operation
              have : ∀ l : List Nat, Topo ops l → ∀ y ∈ l, y < ops.size := by
                intro l
                induction l with
                | nil => intro _ y hy; cases hy
                | cons z l ih2 =>
                  intro ht y hy
                  cases hy with
                  | head => obtain ⟨oz, hoz, _⟩ := readyAt_spec.1 ht.1; exact lt_of_at hoz
                  | tail _ hy => exact ih2 ht.2 y hy
              exact this l ht.2 _ hmem
            exact ih ht.2 _ hmem hes⟩
          rw [he] at this; cases this
  intro d hd
  have : ∀ l : List Nat, Topo ops l → ∀ y ∈ l, y < ops.size := by
    intro l
    induction l with
    | nil => intro _ y hy; cases hy
    | cons z l ih2 =>
      intro ht y hy
      cases hy with
      | head => obtain ⟨oz, hoz, _⟩ := readyAt_spec.1 ht.1; exact lt_of_at hoz
      | tail _ hy => exact ih2 ht.2 y hy
  exact key done h.topo d hd (this done h.topo d hd)

theorem hoistAt_op {i : Nat} {o : Oper} (ho : ops[i]? = some o) (h : hoistAt ops i = true) : hoist o.op = true := by
  unfold hoistAt at h
  rw [ho] at h
  simp only [Bool.and_eq_true] at h
  exact h.1

theorem predsL_waits {j d : Nat} (h : d ∈ predsL ops j) : waits ops j d = true := by
  unfold predsL at h
  unfold waits
  cases ho : ops[j]? with
  | none => rw [ho] at h; cases h
  | some o =>
    rw [ho] at h
    obtain ⟨e, he, rfl⟩ := List.mem_map.1 h
    obtain ⟨h1, h2⟩ := List.mem_filter.1 he
    exact List.any_eq_true.2 ⟨e, h1, by rw [h2]; simp⟩
theorem closeP_listed {listed : Array Bool} (hc : ∀ j i, listed.getD j false = true → waits ops j i = true → listed.getD i false = true) : ∀ (m : Nat) (S : List Nat), (∀ d ∈ S, listed.getD d false = true) → ∀ d ∈ closeP ops m S, listed.getD d false = true
  | 0, S, h, d, hd => h d hd
  | m + 1, S, h, d, hd => by
    refine closeP_listed hc m _ (fun x hx => ?_) d hd
    split at hx
    · rename_i hm
      rcases List.mem_append.1 hx with hx | hx
      · exact hc m x (h m (by simpa using hm)) (predsL_waits hx)
      · exact h x hx
    · exact h x hx
theorem beforeL_listed {listed : Array Bool} (hc : ∀ j i, listed.getD j false = true → waits ops j i = true → listed.getD i false = true) {i : Nat} (hp : ∀ p, waits ops i p = true → listed.getD p false = true) : ∀ d ∈ beforeL ops i, listed.getD d false = true :=
  closeP_listed hc _ _ fun d hd => hp d (predsL_waits hd)

/-- One operation that may change memory, done by both. -/
theorem Inv.write (hC : COk C) (hK : KOk C K) (hall : opsOk N ops = true) (h : Inv C ops N n0 w0 base listed done f st a w g nm) {i : Nat} {o : Oper} (ho : ops[i]? = some o) (hr : readyAt ops done i = true) (hh : hoistAt ops i = false)
    (hj : i ∈ Region.ready .any ops listed) {f' : Fr} {st' : St} (hrun : (wantedV f ops o = some false ∧ f' = f.put o.dst (.tup []) ∧ st' = st) ∨ (wantedV f ops o = some true ∧ ∃ v, (if hoist o.op then quietOp C f st o.op else wrOp C K (evalO C f) st o.op) = some (v, st') ∧ f' = f.put o.dst v ∧
      (done.filter fun d => !(beforeL ops i).contains d && hoistAt ops d && (match ops[d]? with | .some p => heapDep p.op | .none => false)).all (stillOk C (f.put o.dst v) st' ops) = true))
    {Q : Exit → Act → World → Prop} {Kc : Act → World → Prop} (hKc : ∀ a' w' g', Inv C ops N n0 w0 base (listed.setIfInBounds i true) (i :: done) f' st' a' w' g' nm → Ext n0 g g' → Kc a' w') : wpOp C.P ops Q i Kc a w := by
  have hpre := pre_of_ready hj
  have hi : i ∉ done := (readyAt_spec.1 hr).choose_spec.2.1
  have hlooks := h.looks ho hpre
  have hw : ∀ b, wantedV f ops o = some b → Region.wanted o (yielded ops a.tmps) = b := fun b hb =>
    wantedV_sound (fun i hi => hlooks i (looks_guard hi)) (fun i hi => h.guard_lt hall o i hi) hb
  have hm := masked_VR (C := C) h.gl hlooks
  unfold wpOp
  rw [ho]
  simp only
  rcases hrun with ⟨hwf, rfl, rfl⟩ | ⟨hwt, v, hrun, rfl, hstill⟩
  · rw [if_neg (by rw [hw _ hwf]; simp)]
    refine hKc _ _ g (h.wrote hall ho hr hh hpre (VR_undef g) h.gr (Ext.refl _ _) (Nat.le_refl _) fun d hd hu hl => ?_) (Ext.refl _ _)
    exact hl.keep (h.others ho hi hh hpre _ d hd hu) (fun _ _ x => x) (Nat.le_refl _) (fun _ _ x y _ => ⟨x, y⟩)
  · rw [if_pos (hw _ hwt)]
    refine .inl ?_
    have after : ∀ g' v' w', Ext st.n g g' → VR g' v v' → GR g' st' w0 base w' → st.n ≤ st'.n → Kc (a.put o.dst v') w' := fun g' v' w' e1 e2 e3 e4 =>
      hKc _ _ g' (h.wrote hall ho hr hh hpre e2 e3 e1 e4 fun d hd hu hl => hl.write (h.others ho hi hh hpre _ d hd hu) (fun p hp hdep => by
        refine List.all_eq_true.1 hstill d (List.mem_filter.2 ⟨hd, ?_⟩)
        have hwd : (beforeL ops i).contains d = false := by
          cases hx : (beforeL ops i).contains d with
          | false => rfl
          | true => rw [beforeL_listed h.closed hpre d (by simpa using hx)] at hu; cases hu
        rw [hwd, (h.late d hd hu).1, hp]
        simpa using hdep) e4 e1.old) (e1.mono h.n0le)
    split at hrun
    · rw [quietOp_masked] at hrun
      have hn : st.n ≤ st'.n := by
        split at hrun
        · cases hrun; exact Nat.le_refl _
        · split at hrun
          · cases hrun; exact add_n _ _
          · cases hrun
      split at hrun
      · rename_i u hu
        cases hrun
        obtain ⟨v', h1, h2⟩ := rd_sound hC h.gr hm o hu
        unfold Oper.wp
        rw [h1, Oper.upon_value]
        exact after g v' w (Ext.refl _ _) h2 h.gr hn
      · split at hrun
        · rename_i u ob hu
          cases hrun
          have hl := h.gr.lim st.n (Nat.le_refl _)
          obtain ⟨v', w', g', h1, h2, h3, h4, h5⟩ := al_sound (C := C) (h.gr.add ob) hm o hu (fun x hx => by subst hx; exact ⟨by simp [St.add, hget], by simp [St.add], hl.1, hl.2⟩)
          unfold Oper.wp
          rw [h1, Oper.upon_value]
          exact after g' v' w' ⟨h2, fun i hi => h5 i (.inl (by omega))⟩ h3 h4 hn
        · cases hrun
    · rw [wrOp_congr (masked_eq (C := C))] at hrun
      exact wr_sound hC hK h.gr h.gl o hm hrun Kc Q fun g' v' w' e1 e2 e3 => after g' v' w' e1 e2 e3 (wrOp_n hK hrun)

/-- **Whatever the order.** -/
theorem plan_sound (hC : COk C) (hK : KOk C K) (hall : opsOk N ops = true) (Q : Exit → Act → World → Prop) {ff : Fr} {sf : St} : ∀ (fuel : Nat) (rest done : List Nat) (listed : Array Bool) (f : Fr) (st : St) (a : Act) (w : World) (g : Ghost) (nm : Nat → Option Nat),
    Inv C ops N n0 w0 base listed done f st a w g nm → runPlan C K ops done rest f st = some (ff, sf) → planOk ops done rest = true → cnt ops listed ≤ fuel →
    (∀ g' a' w', Ext n0 g g' → FR g' ff a' → GR g' sf w0 base w' → a'.tmps.size = N → Q .normal a' w') → wpAny C.P .any ops Q fuel listed a w := by
  intro fuel
  induction fuel with
  | zero =>
    intro rest done listed f st a w g nm h hrun hplan hcnt hQ
    have he : Region.ready .any ops listed = [] := by
      cases hr : Region.ready .any ops listed with
      | nil => rfl
      | cons j js =>
        have hj : j ∈ Region.ready .any ops listed := by rw [hr]; exact List.mem_cons_self
        have := cnt_set hj h.size
        omega
    refine ⟨he, ?_⟩
    have hd := h.all_done he
    cases rest with
    | nil =>
      simp only [runPlan, Option.some.injEq, Prod.mk.injEq] at hrun
      obtain ⟨rfl, rfl⟩ := hrun
      exact hQ g a w (Ext.refl _ _) ⟨fun t => h.fr t (fun d hdd hu => by rw [hd d hdd] at hu; cases hu), h.dr⟩ h.gr h.tm
    | cons i rest =>
      exfalso
      simp only [planOk, Bool.and_eq_true] at hplan
      obtain ⟨o, ho, h1, h2⟩ := readyAt_spec.1 hplan.1.1.1
      have hlt : i < listed.size := by rw [h.size]; exact lt_of_at ho
      have hun : listed.getD i false = false := by
        cases hl : listed.getD i false with
        | false => rfl
        | true => exact absurd (h.sub i hl) h1
      have : i ∈ Region.ready .any ops listed := mem_ready.2 ⟨by simpa [hlt] using hun, o, ho, fun e hme hb => hd _ (h2 e hme hb)⟩
      rw [he] at this; cases this
  | succ fuel ih =>
    intro rest done listed f st a w g nm h hrun hplan hcnt hQ
    refine ⟨fun he => ?_, fun j hj => ?_⟩
    · have hd := h.all_done he
      cases rest with
      | nil =>
        simp only [runPlan, Option.some.injEq, Prod.mk.injEq] at hrun
        obtain ⟨rfl, rfl⟩ := hrun
        exact hQ g a w (Ext.refl _ _) ⟨fun t => h.fr t (fun d hdd hu => by rw [hd d hdd] at hu; cases hu), h.dr⟩ h.gr h.tm
      | cons i rest =>
        exfalso
        simp only [planOk, Bool.and_eq_true] at hplan
        obtain ⟨o, ho, h1, h2⟩ := readyAt_spec.1 hplan.1.1.1
        have hlt : i < listed.size := by rw [h.size]; exact lt_of_at ho
        have hun : listed.getD i false = false := by
          cases hl : listed.getD i false with
          | false => rfl
          | true => exact absurd (h.sub i hl) h1
        have : i ∈ Region.ready .any ops listed := mem_ready.2 ⟨by simpa [hlt] using hun, o, ho, fun e hme hb => hd _ (h2 e hme hb)⟩
        rw [he] at this; cases this
    · have hcnt' : cnt ops (listed.setIfInBounds j true) ≤ fuel := by have := cnt_set hj h.size; omega
      -- go ahead until it is done
      have main : ∀ (rest done : List Nat) (f : Fr) (st : St) (nm : Nat → Option Nat), Inv C ops N n0 w0 base listed done f st a w g nm → runPlan C K ops done rest f st = some (ff, sf) → planOk ops done rest = true →
          wpOp C.P ops Q j (wpAny C.P .any ops Q fuel (listed.setIfInBounds j true)) a w := by
        intro rest
        induction rest with
        | nil =>
          intro done f st nm h hrun hplan
          obtain ⟨_, o, ho, _⟩ := mem_ready.1 hj
          have hjd : j ∈ done := (planOk_complete hplan j (lt_of_at ho)).resolve_right (by simp)
          exact h.catch_up hC hall hj hjd fun a' w' g' h' e => ih _ _ _ _ _ _ _ g' nm h' hrun hplan hcnt' fun g2 a2 w2 e2 => hQ g2 a2 w2 (e.trans e2 (Nat.le_refl _))
        | cons i rest ihr =>
          intro done f st nm h hrun hplan
          by_cases hjd : j ∈ done
          · exact h.catch_up hC hall hj hjd fun a' w' g' h' e => ih _ _ _ _ _ _ _ g' nm h' hrun hplan hcnt' fun g2 a2 w2 e2 => hQ g2 a2 w2 (e.trans e2 (Nat.le_refl _))
          · have hplan0 := hplan
            simp only [planOk, Bool.and_eq_true, decide_eq_true_eq] at hplan
            obtain ⟨⟨⟨hr, hlt⟩, hif⟩, hrest⟩ := hplan
            obtain ⟨o, ho, _, _⟩ := readyAt_spec.1 hr
            simp only [runPlan, ho] at hrun
            by_cases hh : hoistAt ops i = true
            · rw [if_pos hh] at hif
              have hp : ∀ j, j < ops.size → pairOk ops i j = true ∧ pairOk2 ops i j = true := fun j hj => by
                have := List.all_eq_true.1 hif j (List.mem_range.2 hj)
                simpa [Bool.and_eq_true] using this
              split at hrun
              · rename_i hwf
                exact ihr _ _ _ _ (h.ahead ho hr hh hp (v := .tup []) (n' := none) (.inl rfl) (.inl ⟨hwf, rfl, rfl, rfl⟩)) hrun hrest
              · cases hrun
              · rename_i hwt
                rw [if_pos hh] at hrun
                split at hrun
                · rename_i v st2 hq
                  unfold quietOp at hq
                  split at hq
                  · rename_i u hu
                    cases hq
                    exact ihr _ _ _ _ (h.ahead ho hr hh hp (n' := none) (.inl rfl) (.inr ⟨hwt, .inl ⟨hu, rfl, rfl⟩⟩)) hrun hrest
                  · split at hq
                    · rename_i u ob hu
                      cases hq
                      refine ihr _ _ _ _ (h.ahead ho hr hh hp (n' := ob.map fun _ => st.n) ?_ (.inr ⟨hwt, .inr ⟨ob, hu, rfl, rfl⟩⟩)) hrun hrest
                      cases ob with
                      | none => exact .inl rfl
                      | some ob => exact .inr ⟨ob, rfl⟩
                    · cases hq
                · cases hrun
            · have hhF : hoistAt ops i = false := by simpa using hh
              rw [if_neg hh] at hif
              simp only [Bool.and_eq_true] at hif
              -- nothing else may come up now
              have hji : j = i := by
                obtain ⟨_, oj, hoj, _⟩ := mem_ready.1 hj
                rcases planOk_complete hplan0 j (lt_of_at hoj) with h1 | h1
                · exact absurd h1 hjd
                · cases h1 with
                  | head => rfl
                  | tail _ h1 =>
                    exfalso
                    have := List.all_eq_true.1 hif.2 j h1
                    rw [hoj] at this
                    obtain ⟨e, he, hb⟩ := List.any_eq_true.1 this
                    simp only [Bool.and_eq_true, Bool.not_eq_true', List.contains_eq_mem, decide_eq_false_iff_not] at hb
                    have hl := pre_of_ready hj e.on (waits_spec.2 ⟨oj, hoj, e, by simpa using he, hb.1, rfl⟩)
                    exact hb.2 (h.sub _ hl)
              subst hji
              split at hrun
              · rename_i hwf
                exact h.write hC hK hall ho hr hhF hj (.inl ⟨hwf, rfl, rfl⟩) fun a' w' g' h' e => ih _ _ _ _ _ _ _ g' nm h' hrun hrest hcnt' fun g2 a2 w2 e2 => hQ g2 a2 w2 (e.trans e2 (Nat.le_refl _))
              · cases hrun
              · rename_i hwt
                rw [if_neg hh] at hrun
                split at hrun
                · rename_i v st2 hq
                  split at hrun
                  · rename_i hstill
                    exact h.write hC hK hall ho hr hhF hj (.inr ⟨hwt, v, hq, rfl, hstill⟩) fun a' w' g' h' e => ih _ _ _ _ _ _ _ g' nm h' hrun hrest hcnt' fun g2 a2 w2 e2 => hQ g2 a2 w2 (e.trans e2 (Nat.le_refl _))
                  · cases hrun
                · cases hrun
      exact main rest done f st nm h hrun hplan

/-- Bytes of a constant text at a region's start. -/
theorem pair_sound (hC : COk C) (hK : KOk C K) (hall : opsOk N ops = true) {Q : Exit → Act → World → Prop} (hG : GR g st w0 base w) (hgl : GlobR C g w0 base) (hf : FR g f a) (hN : a.tmps.size = N) {f2 f' : Fr} {rest : List Oper} {st' : St}
    (hp : pairV C f ops.toList = some (f2, rest)) (h : runOps C K ops rest f2 st = some (f', st')) (hQ : ∀ g' a' w', Ext st.n g g' → FR g' f' a' → GR g' st' w0 base w' → a'.tmps.size = N → Q .normal a' w') : wpList C.P ops Q ops.toList a w := by
  unfold pairV at hp
  split at hp
  · rename_i o o2 r hl
    split at hp
    · rename_i t len parts s s2 x d d2 h1 h2 h3 h4 h5 h6
      split at hp
      · rename_i hc
        obtain ⟨rfl, rfl, rfl, he⟩ := hc
        rename_i s
        cases hb : buildSliceV C s2 len (parts.toList.map fun (i, x) => (i, evalO C f x)) with
        | none => rw [hb] at hp; cases hp
        | some v =>
          rw [hb] at hp
          simp only [Option.map_some, Option.some.injEq, Prod.mk.injEq] at hp
          obtain ⟨rfl, rfl⟩ := hp
          have hρ := hf.eval (C := C) hgl
          have hpr : PartsR g (parts.toList.map fun (i, x) => (i, evalO C f x)) (parts.map fun (i, x) => (i, a.eval x)).toList := by rw [Array.toList_map]; exact PartsR.of hρ parts.toList
          obtain ⟨vs, elem, g', k1, k2, k3, k4, k5, k6⟩ := buildSliceV_row hG hb hpr
          unfold bytesT at he
          rw [k2] at he
          have hmem : ∀ p ∈ o :: o2 :: r, p ∈ ops.toList := fun p hp => by rw [hl]; exact hp
          have hd : x < a.tmps.size := by rw [hN]; exact opsOk_dst hall (hmem o List.mem_cons_self) h3
          have hd2 : d2 < a.tmps.size := by rw [hN]; exact opsOk_dst hall (hmem o2 (List.mem_cons_of_mem _ List.mem_cons_self)) h4
          rw [hl]
          refine wpList_step fun Kc hKc => ?_
          rw [if_pos (by simp [Region.wanted, h5])]
          unfold Oper.wp
          rw [show (execOp a.eval o).run C.P w = .ok (.value (.slice (some ⟨w.heap.size, 0, none⟩) len len)) (w.alloc (.cells vs elem)) by simp only [execOp, h1, Sem.run_bind, k1, Result.andThen_ok, Sem.run_pure], Oper.upon_value]
          refine hKc _ _ (wpList_step fun Kd hKd => ?_)
          rw [if_pos (by simp [Region.wanted, h6])]
          unfold Oper.wp
          have hev : (a.put o.dst (.slice (some ⟨w.heap.size, 0, none⟩) len len)).eval (.tmp x) = .slice (some ⟨w.heap.size, 0, none⟩) len len := by
            rw [h3]; simp [Act.eval, Act.put, hd]
          rw [show (execOp (a.put o.dst (.slice (some ⟨w.heap.size, 0, none⟩) len len)).eval o2).run C.P (w.alloc (.cells vs elem)) = .ok (.value (.slice (some ⟨w.heap.size, 0, none⟩) len len)) (w.alloc (.cells vs elem (vs.size, vs.size + 1))) by
            simp only [execOp, h2, hev, Sem.run_bind, Go.Lib.run_convert_bytes_const w s2 elem vs len len k2 (isU8_spec he), Result.andThen_ok, Sem.run_pure], Oper.upon_value]
          have e : Ext st.n g g' := ⟨k3, fun i _ => k6 i⟩
          refine hKd _ _ (runOps_sound hC hK ops hall Q r (fun p hp => hmem p (List.mem_cons_of_mem _ (List.mem_cons_of_mem _ hp))) (k5 _) (hgl.mono k3) ?_ ?_ h (fun g2 a2 w2 e2 => hQ g2 a2 w2 (e.trans e2 (Nat.le_refl _))))
          · have f1 : FR g' (f.put (some x) v) (a.put o.dst (.slice (some ⟨w.heap.size, 0, none⟩) len len)) := by rw [h3]; exact (hf.mono k3).put (fun d' e => by cases e; exact hd) k4
            have hsz : (a.put o.dst (.slice (some ⟨w.heap.size, 0, none⟩) len len)).tmps.size = a.tmps.size := size_put _ _ _
            rw [h4]
            exact f1.put (fun d' e => by cases e; rw [hsz]; exact hd2) k4
          · rw [size_put, size_put]; exact hN
      · cases hp
    · cases hp
  · cases hp

/-- **A region.** -/
theorem region_sound (hC : COk C) (hK : KOk C K) (hall : opsOk N ops = true) {id : Nat} {draw : Bool} {Q : Exit → Act → World → Prop} (hG : GR g st w0 base w) (hgl : GlobR C g w0 base) (hf : FR g f a) (hN : a.tmps.size = N) {f' : Fr} {st' : St}
    (h : runRegion C K ops draw f st = some (f', st')) (hQ : ∀ g' a' w', Ext st.n g g' → FR g' f' a' → GR g' st' w0 base w' → a'.tmps.size = N → Q .normal a' w') : (Code.region id ops draw).wp C.P Q a w := by
  unfold runRegion at h
  cases draw with
  | false =>
    simp only [Bool.false_eq_true, if_false] at h
    split at h
    · rename_i f2 rest hp
      exact wp_region_list (pair_sound hC hK hall hG hgl hf hN hp h hQ)
    · exact wp_region_list (runOps_sound hC hK ops hall Q ops.toList (fun _ h => h) hG hgl hf hN h hQ)
  | true =>
    simp only [if_true] at h
    split at h
    · rename_i hp
      refine wp_region_any hC.mixed ?_
      refine plan_sound (n0 := st.n) hC hK hall Q ops.size (plan ops) [] (Array.replicate ops.size false) f st a w.drew g (fun _ => none) ⟨by simp, fun i hi => ?_, fun j i hj => ?_, trivial, (fun d hd => by cases hd), (fun d hd => by cases hd), (fun d hd => by cases hd), hG.drew, hgl, fun t _ => hf.t t, hf.d, hN, Nat.le_refl _⟩ h hp ?_ hQ
      · rw [show (Array.replicate ops.size false).getD i false = false by simp [Array.getElem?_replicate]; split <;> rfl] at hi; cases hi
      · rw [show (Array.replicate ops.size false).getD j false = false by simp [Array.getElem?_replicate]; split <;> rfl] at hj; cases hj
      · unfold cnt; exact Nat.le_trans (List.length_filter_le _ _) (by simp)
    · cases h
end
end Go.Vm
