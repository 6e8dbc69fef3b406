/- Regions whose order is open: one order stands for all. -/
import Derived.Test.YtklcmgodhpediaaGreatDoorN12
set_option linter.unusedSimpArgs false
set_option linter.unusedVariables false
namespace Go.Vm
open Go Go.RowKit

section
variable {C : Cfg} {K : FuncId → List V → St → Option (V × St)} {ops : Array Oper} {N n0 : Nat} {w0 : W0} {base : Nat}

theorem waits_spec {j i : Nat} : waits ops j i = true ↔ ∃ o, ops[j]? = some o ∧ ∃ e ∈ o.after, Region.binds .any e = true ∧ e.on = i := by
  unfold waits
  cases ho : ops[j]? with
  | none => simp
  | some o => simp only [List.any_eq_true, Array.mem_toList_iff, Bool.and_eq_true, beq_iff_eq, Option.some.injEq, exists_eq_left']

theorem readyAt_spec {done : List Nat} {i : Nat} : readyAt ops done i = true ↔ ∃ o, ops[i]? = some o ∧ i ∉ done ∧ ∀ e ∈ o.after, Region.binds .any e = true → e.on ∈ done := by
  unfold readyAt
  cases ho : ops[i]? with
  | none => simp
  | some o =>
    simp only [Bool.and_eq_true, Bool.not_eq_true', List.contains_eq_mem, decide_eq_false_iff_not, List.all_eq_true, Array.mem_toList_iff, Bool.or_eq_true, decide_eq_true_eq, Option.some.injEq, exists_eq_left']
    constructor
    · rintro ⟨h1, h2⟩
      exact ⟨h1, fun e he hb => (h2 e he).resolve_left (by simp [hb])⟩
    · rintro ⟨h1, h2⟩
      refine ⟨h1, fun e he => ?_⟩
      cases hb : Region.binds .any e
      · exact .inl rfl
      · exact .inr (h2 e he hb)

/-- Each one's predecessors stand ahead of it. -/
def Topo (ops : Array Oper) : List Nat → Prop
  | [] => True
  | i :: d => readyAt ops d i = true ∧ Topo ops d

theorem Topo.pred : ∀ {done : List Nat}, Topo ops done → ∀ {d p : Nat}, d ∈ done → waits ops d p = true → p ∈ done
  | i :: r, h, d, p, hd, hw => by
    cases hd with
    | head =>
      obtain ⟨o, ho, _, h2⟩ := readyAt_spec.1 h.1
      obtain ⟨o', ho', e, he, hb, hon⟩ := waits_spec.1 hw
      rw [ho] at ho'; cases ho'
      exact List.mem_cons_of_mem _ (hon ▸ h2 e he hb)
    | tail _ hd => exact List.mem_cons_of_mem _ (h.2.pred hd hw)

theorem Topo.self : ∀ {done : List Nat}, Topo ops done → ∀ {d : Nat}, d ∈ done → waits ops d d = false
  | i :: r, h, d, hd => by
    cases hd with
    | head =>
      obtain ⟨o, ho, h1, h2⟩ := readyAt_spec.1 h.1
      cases hw : waits ops i i with
      | false => rfl
      | true =>
        obtain ⟨o', ho', e, he, hb, hon⟩ := waits_spec.1 hw
        rw [ho] at ho'; cases ho'
        exact absurd (hon ▸ h2 e he hb) h1
    | tail _ hd => exact h.2.self hd

theorem dstIs_spec {i : Nat} {t : Tmp} : dstIs ops i t = true ↔ ∃ o, ops[i]? = some o ∧ o.dst = some t := by
  unfold dstIs
  cases ho : ops[i]? with
  | none => simp
  | some o => simp
theorem looksB_spec {i : Nat} {t : Tmp} : looksB ops i t = true ↔ ∃ o, ops[i]? = some o ∧ t ∈ o.looksAt ops := by
  unfold looksB
  cases ho : ops[i]? with
  | none => simp
  | some o => simp

theorem pair1 {d j : Nat} (h : pairOk ops d j = true) {t : Tmp} (hd : dstIs ops d t = true) (hl : looksB ops j t = true) : j ≠ d ∧ waits ops j d = true := by
  obtain ⟨o, ho, hdst⟩ := dstIs_spec.1 hd
  simp only [pairOk, ho, Option.bind_some, hdst, hl, Bool.not_true, Bool.false_or, Bool.and_eq_true, bne_iff_ne, ne_eq] at h
  exact h.1
theorem pair3 {d j : Nat} (h : pairOk ops d j = true) {t : Tmp} (hd : dstIs ops d t = true) (hj : dstIs ops j t = true) (hne : j ≠ d) : hoistAt ops j = false ∧ waits ops j d = true := by
  obtain ⟨o, ho, hdst⟩ := dstIs_spec.1 hd
  simp only [pairOk, ho, Option.bind_some, hdst, hj, Bool.not_true, Bool.or_false, Bool.and_eq_true, Bool.or_eq_true, beq_iff_eq, Bool.not_eq_true'] at h
  exact h.2.resolve_left hne
theorem pair2 {d j : Nat} (h : pairOk2 ops d j = true) {t : Tmp} (hj : dstIs ops j t = true) (hl : looksB ops d t = true) : hoistAt ops j = true ∨ waits ops d j = true ∨ waits ops j d = true := by
  obtain ⟨o, ho, hdst⟩ := dstIs_spec.1 hj
  simp only [pairOk2, ho, Option.bind_some, hdst, hl, Bool.not_true, Bool.false_or, Bool.or_eq_true] at h
  rcases h with (h | h) | h
  · exact .inl h
  · exact .inr (.inl h)
  · exact .inr (.inr h)

/-- What an operation yielded that the model has not done yet. -/
def Lz (C : Cfg) (ops : Array Oper) (f : Fr) (st : St) (g : Ghost) (n0 : Nat) (nm : Option Nat) (d : Nat) : Prop :=
  ∃ o, ops[d]? = some o ∧
    ((wantedV f ops o = some false ∧ nm = none ∧ ∀ t, o.dst = some t → tget f.t t = .tup []) ∨
     (wantedV f ops o = some true ∧ nm = none ∧ ∃ v, rdOp C st.H (evalO C f) o.op = some v ∧ ∀ t, o.dst = some t → tget f.t t = v) ∨
     (wantedV f ops o = some true ∧ nm = none ∧ ∃ v m, alOp C m (evalO C f) o.op = some (v, none) ∧ ∀ t, o.dst = some t → tget f.t t = v) ∨
     (wantedV f ops o = some true ∧ ∃ v ob m, nm = some m ∧ alOp C m (evalO C f) o.op = some (v, some ob) ∧ hget st.H m = some ob ∧ m < st.n ∧ n0 ≤ m ∧ g.κ m = none ∧ g.θ m = none ∧ ∀ t, o.dst = some t → tget f.t t = v))

structure Inv (C : Cfg) (ops : Array Oper) (N n0 : Nat) (w0 : W0) (base : Nat) (listed : Array Bool) (done : List Nat) (f : Fr) (st : St) (a : Act) (w : World) (g : Ghost) (nm : Nat → Option Nat) : Prop where
  size : listed.size = ops.size
  sub : ∀ i, listed.getD i false = true → i ∈ done
  closed : ∀ j i, listed.getD j false = true → waits ops j i = true → listed.getD i false = true
  topo : Topo ops done
  pairs : ∀ d ∈ done, hoistAt ops d = true → ∀ j, j < ops.size → pairOk ops d j = true ∧ pairOk2 ops d j = true
  late : ∀ d ∈ done, listed.getD d false = false → hoistAt ops d = true ∧ Lz C ops f st g n0 (nm d) d
  uniq : ∀ d ∈ done, ∀ e ∈ done, listed.getD d false = false → listed.getD e false = false → d ≠ e → ∀ m, nm d = some m → nm e ≠ some m
  gr : GR g st w0 base w
  gl : GlobR C g w0 base
  fr : ∀ t, (∀ d ∈ done, listed.getD d false = false → dstIs ops d t = false) → VR g (tget f.t t) (a.tmps.getD t undef)
  dr : DR g f.d a.defers
  tm : a.tmps.size = N
  n0le : n0 ≤ st.n

theorem lt_of_at {ops : Array Oper} {i : Nat} {o : Oper} (h : ops[i]? = some o) : i < ops.size := (Array.getElem?_eq_some_iff.1 h).1
theorem mem_of_at {ops : Array Oper} {i : Nat} {o : Oper} (h : ops[i]? = some o) : o ∈ ops.toList := by rw [← Array.getElem?_toList] at h; exact List.mem_of_getElem? h

/-- Another frame and heap, as far as an operation goes. -/
theorem Lz.keep {f f' : Fr} {st st' : St} {g g' : Ghost} {nm : Option Nat} {d : Nat} (h : Lz C ops f st g n0 nm d)
    (hf : ∀ o, ops[d]? = some o → (∀ t ∈ o.looksAt ops, tget f'.t t = tget f.t t) ∧ ∀ t, o.dst = some t → tget f'.t t = tget f.t t)
    (hH : ∀ b o, hget st.H b = some o → hget st'.H b = some o) (hn : st.n ≤ st'.n) (hg : ∀ m, nm = some m → g.κ m = none → g.θ m = none → m < st.n → g'.κ m = none ∧ g'.θ m = none) : Lz C ops f' st' g' n0 nm d := by
  obtain ⟨o, ho, h⟩ := h
  obtain ⟨h1, h2⟩ := hf o ho
  refine ⟨o, ho, ?_⟩
  rw [wantedV_same h1, rdOp_congr (evalO_same (C := C) h1)]
  rcases h with ⟨a, b, c⟩ | ⟨a, b, v, c, e⟩ | ⟨a, b, v, m, c, e⟩ | ⟨a, v, ob, m, b, c, e, i, j, k, l, q⟩
  · exact .inl ⟨a, b, fun t ht => (h2 t ht).trans (c t ht)⟩
  · exact .inr (.inl ⟨a, b, v, rdOp_mono hH c, fun t ht => (h2 t ht).trans (e t ht)⟩)
  · exact .inr (.inr (.inl ⟨a, b, v, m, by rw [alOp_congr (evalO_same (C := C) h1)]; exact c, fun t ht => (h2 t ht).trans (e t ht)⟩))
  · obtain ⟨k', l'⟩ := hg m b k l i
    exact .inr (.inr (.inr ⟨a, v, ob, m, b, by rw [alOp_congr (evalO_same (C := C) h1)]; exact c, hH _ _ e, by omega, j, k', l', fun t ht => (h2 t ht).trans (q t ht)⟩))

/-- Behind a write: what hangs on no memory stays; the rest was looked at. -/
theorem Lz.write {f f' : Fr} {st st' : St} {g g' : Ghost} {nm : Option Nat} {d : Nat} (h : Lz C ops f st g n0 nm d)
    (hf : ∀ o, ops[d]? = some o → (∀ t ∈ o.looksAt ops, tget f'.t t = tget f.t t) ∧ ∀ t, o.dst = some t → tget f'.t t = tget f.t t)
    (hs : ∀ o, ops[d]? = some o → heapDep o.op = true → stillOk C f' st' ops d = true) (hn : st.n ≤ st'.n) (hg : ∀ m, m < st.n → g'.κ m = g.κ m ∧ g'.θ m = g.θ m) : Lz C ops f' st' g' n0 nm d := by
  obtain ⟨o, ho, h⟩ := h
  obtain ⟨h1, h2⟩ := hf o ho
  refine ⟨o, ho, ?_⟩
  have hev := evalO_same (C := C) h1
  rw [wantedV_same h1]
  by_cases hh : heapDep o.op = true
  · -- it was looked at
    have hst := hs o ho hh
    unfold stillOk at hst
    rw [ho] at hst
    simp only [wantedV_same h1] at hst
    rcases h with ⟨a, b, c⟩ | ⟨a, b, v, c, e⟩ | ⟨a, b, v, m, c, e⟩ | ⟨a, v, ob, m, b, c, e, i, j, k, l, q⟩
    · exact .inl ⟨a, b, fun t ht => (h2 t ht).trans (c t ht)⟩
    · rw [a] at hst
      split at hst
      · rename_i dd _ hdd
        split at hst
        · rename_i u hu
          have := sameV_eq hst
          refine .inr (.inl ⟨a, b, u, hu, fun t ht => ?_⟩)
          rw [hdd] at ht; cases ht
          exact this.symm
        · have hal : ∀ n, alOp C n (evalO C f') o.op = none := fun n => by rw [alOp_congr hev]; exact rd_al_disj c
          split at hst <;> first
            | (rw [hal] at hst; cases hst; done)
            | (cases hst; done)
      · rename_i hx; cases hx
      · cases hst
    · exact .inr (.inr (.inl ⟨a, b, v, m, by rw [alOp_congr hev]; exact c, fun t ht => (h2 t ht).trans (e t ht)⟩))
    · obtain ⟨k', l'⟩ := hg m i
      have hmn := al_name c
      rw [a] at hst
      split at hst
      · rename_i dd _ hdd
        have hv : tget f'.t dd = v := (h2 dd hdd).trans (q dd hdd)
        have hcal : alOp C m (evalO C f') o.op = some (v, some ob) := by rw [alOp_congr hev]; exact c
        split at hst
        · rename_i u hu
          have := rd_al_disj (n := m) hu
          rw [hcal] at this; cases this
        · have key : hget st'.H m = some ob := by
            rw [hv] at hst
            split at hst <;> simp only [nameOf, Option.some.injEq, reduceCtorEq] at hmn <;> (first | (subst hmn) | skip)
            all_goals first
              | (rw [hcal] at hst
                 simp only [Bool.and_eq_true] at hst
                 obtain ⟨_, h4⟩ := hst
                 split at h4
                 · rename_i ob' hob'; rw [sameOb_eq h4]; exact hob'
                 · cases h4)
              | (cases hst; done)
          exact .inr (.inr (.inr ⟨a, v, ob, m, b, hcal, key, by omega, j, k'.trans k, l'.trans l, fun t ht => (h2 t ht).trans (q t ht)⟩))
      · rename_i hx; cases hx
      · cases hst
  · have hh' : heapDep o.op = false := by simpa using hh
    rcases h with ⟨a, b, c⟩ | ⟨a, b, v, c, e⟩ | ⟨a, b, v, m, c, e⟩ | ⟨a, v, ob, m, b, c, _⟩
    · exact .inl ⟨a, b, fun t ht => (h2 t ht).trans (c t ht)⟩
    · exact .inr (.inl ⟨a, b, v, by rw [rdOp_congr hev, rdOp_noheap (H' := st.H) hh']; exact c, fun t ht => (h2 t ht).trans (e t ht)⟩)
    · exact .inr (.inr (.inl ⟨a, b, v, m, by rw [alOp_congr hev]; exact c, fun t ht => (h2 t ht).trans (e t ht)⟩))
    · exact absurd (alOp_noheap hh' c).1 (by simp)

theorem tget_put_ne {f : Fr} {dst : Option Tmp} {v : V} {t : Tmp} (h : dst ≠ some t) : tget (f.put dst v).t t = tget f.t t := by
  cases dst with
  | none => rfl
  | some d => simp only [Fr.put, tget_tset]; rw [if_neg]; intro e; exact h (by rw [e])
theorem tget_put_eq {f : Fr} {t : Tmp} {v : V} : tget (f.put (some t) v).t t = v := by simp only [Fr.put, tget_tset, if_true]
theorem put_d (f : Fr) (dst : Option Tmp) (v : V) : (f.put dst v).d = f.d := by cases dst <;> rfl
theorem put_defs (a : Act) (dst : Option Tmp) (v : Value) : (a.put dst v).defers = a.defers := by cases dst <;> rfl

theorem getD_listed_ne {listed : Array Bool} {i j : Nat} (h : i ≠ j) : (listed.setIfInBounds i true).getD j false = listed.getD j false := getD_set_ne false h
theorem getD_listed_eq {listed : Array Bool} {i : Nat} (h : i < listed.size) : (listed.setIfInBounds i true).getD i false = true := by simp [h]

variable {listed : Array Bool} {done : List Nat} {f : Fr} {st : St} {a : Act} {w : World} {g : Ghost} {nm : Nat → Option Nat}

theorem Inv.dst_lt (h : Inv C ops N n0 w0 base listed done f st a w g nm) (hall : opsOk N ops = true) {i : Nat} {o : Oper} (ho : ops[i]? = some o) {d : Tmp} (hd : o.dst = some d) : d < a.tmps.size := by
  rw [h.tm]; exact opsOk_dst hall (mem_of_at ho) hd

/-- The evaluator goes ahead by an operation that changes no memory. -/
theorem Inv.ahead (h : Inv C ops N n0 w0 base listed done f st a w g nm) {i : Nat} {o : Oper} (ho : ops[i]? = some o) (hr : readyAt ops done i = true) (hh : hoistAt ops i = true) (hp : ∀ j, j < ops.size → pairOk ops i j = true ∧ pairOk2 ops i j = true)
    {v : V} {st' : St} {n' : Option Nat} (hst : st' = st ∨ ∃ ob, st' = st.add (some ob))
    (hv : (wantedV f ops o = some false ∧ v = .tup [] ∧ st' = st ∧ n' = none) ∨ (wantedV f ops o = some true ∧ ((rdOp C st.H (evalO C f) o.op = some v ∧ st' = st ∧ n' = none) ∨ (∃ ob, alOp C st.n (evalO C f) o.op = some (v, ob) ∧ st' = st.add ob ∧ n' = ob.map fun _ => st.n)))) :
    Inv C ops N n0 w0 base listed (i :: done) (f.put o.dst v) st' a w g (fun d => if d = i then n' else nm d) := by
  have hi : i ∉ done := (readyAt_spec.1 hr).choose_spec.2.1
  have hil : listed.getD i false = false := by
    cases hl : listed.getD i false with
    | false => rfl
    | true => exact absurd (h.sub i hl) hi
  have hlt := lt_of_at ho
  have hH : ∀ b ob, hget st.H b = some ob → hget st'.H b = some ob := by
    intro b ob hb
    rcases hst with rfl | ⟨ob', rfl⟩
    · exact hb
    · have := h.gr.top _ (hget_mem hb)
      simp only [St.add, hget]
      rw [if_neg (by simp at this ⊢; omega)]
      exact hb
  have hn : st.n ≤ st'.n := by
    rcases hst with rfl | ⟨ob', rfl⟩
    · exact Nat.le_refl _
    · simp [St.add]
  -- its own operands are not what it writes
  have own : ∀ t ∈ o.looksAt ops, tget (f.put o.dst v).t t = tget f.t t := fun t ht => tget_put_ne fun hd => by
    have := pair1 (hp i hlt).1 (dstIs_spec.2 ⟨o, ho, hd⟩) (looksB_spec.2 ⟨o, ho, ht⟩)
    exact this.1 rfl
  have old : ∀ d ∈ done, hoistAt ops d = true → ∀ p, ops[d]? = some p → (∀ t ∈ p.looksAt ops, tget (f.put o.dst v).t t = tget f.t t) ∧ ∀ t, p.dst = some t → tget (f.put o.dst v).t t = tget f.t t := by
    intro d hd hhd p hpd
    have hne : d ≠ i := fun e => hi (e ▸ hd)
    refine ⟨fun t ht => tget_put_ne fun hdst => ?_, fun t ht => tget_put_ne fun hdst => ?_⟩
    · have := pair1 (hp d (lt_of_at hpd)).1 (dstIs_spec.2 ⟨o, ho, hdst⟩) (looksB_spec.2 ⟨p, hpd, ht⟩)
      exact hi (h.topo.pred hd this.2)
    · have := pair3 (hp d (lt_of_at hpd)).1 (dstIs_spec.2 ⟨o, ho, hdst⟩) (dstIs_spec.2 ⟨p, hpd, ht⟩) hne
      rw [hhd] at this; cases this.1
  refine ⟨h.size, fun j hj => List.mem_cons_of_mem _ (h.sub j hj), h.closed, ⟨hr, h.topo⟩, ?_, ?_, ?_, ?_, h.gl, ?_, by rw [put_d]; exact h.dr, h.tm, Nat.le_trans h.n0le hn⟩
  · intro d hd hhd
    cases hd with
    | head => exact hp
    | tail _ hd => exact h.pairs d hd hhd
  · intro d hd hu
    cases hd with
    | head =>
      refine ⟨hh, ?_⟩
      simp only [if_true]
      refine ⟨o, ho, ?_⟩
      rw [wantedV_same own]
      have hev := evalO_same (C := C) own
      have hown : ∀ t, o.dst = some t → tget (f.put o.dst v).t t = v := fun t ht => by rw [ht]; exact tget_put_eq
      rcases hv with ⟨a1, rfl, rfl, rfl⟩ | ⟨a1, ⟨b1, rfl, rfl⟩ | ⟨ob, b1, rfl, rfl⟩⟩
      · exact .inl ⟨a1, rfl, hown⟩
      · exact .inr (.inl ⟨a1, rfl, v, by rw [rdOp_congr hev]; exact b1, hown⟩)
      · cases ob with
        | none => exact .inr (.inr (.inl ⟨a1, rfl, v, st.n, by rw [alOp_congr hev]; exact b1, hown⟩))
        | some ob =>
          have hl := h.gr.lim st.n (Nat.le_refl _)
          exact .inr (.inr (.inr ⟨a1, v, ob, st.n, rfl, by rw [alOp_congr hev]; exact b1, by simp [St.add, hget], by simp [St.add], h.n0le, hl.1, hl.2, hown⟩))
    | tail _ hd =>
      have hne : d ≠ i := fun e => hi (e ▸ hd)
      simp only [hne, if_false]
      obtain ⟨k1, k2⟩ := h.late d hd hu
      exact ⟨k1, k2.keep (old d hd k1) hH hn (fun m _ x y _ => ⟨x, y⟩)⟩
  · have lt : ∀ d ∈ done, listed.getD d false = false → ∀ m, nm d = some m → m < st.n := by
      intro d hd hu m hm
      obtain ⟨_, p, _, k⟩ := h.late d hd hu
      rcases k with ⟨_, b, _⟩ | ⟨_, b, _⟩ | ⟨_, b, _⟩ | ⟨_, v, ob, m', b, _, _, i1, _⟩
      · rw [hm] at b; cases b
      · rw [hm] at b; cases b
      · rw [hm] at b; cases b
      · rw [hm] at b; cases b; exact i1
    have new : ∀ m, n' = some m → m = st.n := by
      intro m hm
      rcases hv with ⟨_, _, _, rfl⟩ | ⟨_, ⟨_, _, rfl⟩ | ⟨ob, _, _, rfl⟩⟩
      · cases hm
      · cases hm
      · cases ob <;> cases hm; rfl
    intro d hd e he hdu heu hne m hm hm2
    cases hd with
    | head =>
      cases he with
      | head => exact hne rfl
      | tail _ he =>
        have hei : e ≠ i := fun x => hi (x ▸ he)
        rw [if_pos rfl] at hm
        rw [if_neg hei] at hm2
        have := lt e he heu m hm2
        have := new m hm
        omega
    | tail _ hd =>
      have hdi : d ≠ i := fun x => hi (x ▸ hd)
      rw [if_neg hdi] at hm
      cases he with
      | head =>
        rw [if_pos rfl] at hm2
        have := lt d hd hdu m hm
        have := new m hm2
        omega
      | tail _ he =>
        have hei : e ≠ i := fun x => hi (x ▸ he)
        rw [if_neg hei] at hm2
        exact h.uniq d hd e he hdu heu hne m hm hm2
  · rcases hst with rfl | ⟨ob', rfl⟩
    · exact h.gr
    · exact h.gr.add _
  · intro t ht
    have hdi := ht i List.mem_cons_self hil
    have hne : o.dst ≠ some t := fun e => by rw [dstIs_spec.2 ⟨o, ho, e⟩] at hdi; cases hdi
    rw [tget_put_ne hne]
    exact h.fr t fun d hd hu => ht d (List.mem_cons_of_mem _ hd) hu

theorem Inv.looks (h : Inv C ops N n0 w0 base listed done f st a w g nm) {j : Nat} {o : Oper} (ho : ops[j]? = some o) (hpre : ∀ i, waits ops j i = true → listed.getD i false = true) :
    ∀ t ∈ o.looksAt ops, VR g (tget f.t t) (a.tmps.getD t undef) := by
  intro t ht
  refine h.fr t fun d hd hu => ?_
  cases hdt : dstIs ops d t with
  | false => rfl
  | true =>
    have hp := (h.pairs d hd (h.late d hd hu).1 j (lt_of_at ho)).1
    have := hpre d (pair1 hp hdt (looksB_spec.2 ⟨o, ho, ht⟩)).2
    rw [hu] at this; cases this

theorem Inv.guard_lt (h : Inv C ops N n0 w0 base listed done f st a w g nm) (hall : opsOk N ops = true) (o : Oper) (i : Nat) (hi : ∃ gw, o.guard = some gw ∧ (ops[gw.1]?).bind (·.dst) = some i) : i < a.tmps.size := by
  rw [h.tm]; exact opsOk_guard hall o i hi

theorem looks_guard {o : Oper} {i : Nat} (hi : ∃ gw, o.guard = some gw ∧ (ops[gw.1]?).bind (·.dst) = some i) : i ∈ o.looksAt ops := by
  obtain ⟨gw, h1, h2⟩ := hi
  obtain ⟨gd, b⟩ := gw
  simp [Oper.looksAt, h1, h2]

/-- The model does what the evaluator did before. -/
theorem Inv.catch_up (hC : COk C) (hall : opsOk N ops = true) (h : Inv C ops N n0 w0 base listed done f st a w g nm) {j : Nat} (hj : j ∈ Region.ready .any ops listed) (hjd : j ∈ done) {Q : Exit → Act → World → Prop} {Kc : Act → World → Prop}
    (hK : ∀ a' w' g', Inv C ops N n0 w0 base (listed.setIfInBounds j true) done f st a' w' g' nm → Ext n0 g g' → Kc a' w') : wpOp C.P ops Q j Kc a w := by
  obtain ⟨hun, o, ho, hpre⟩ := mem_ready.1 hj
  have hlt : j < listed.size := by rw [h.size]; exact lt_of_at ho
  have hunF : listed.getD j false = false := by simpa [hlt] using hun
  have hpre' : ∀ i, waits ops j i = true → listed.getD i false = true := fun i hw => by
    obtain ⟨o', ho', e, he, hb, rfl⟩ := waits_spec.1 hw
    rw [ho] at ho'; cases ho'
    exact hpre e he hb
  have hlooks := h.looks ho hpre'
  obtain ⟨hhj, o', ho', hlz⟩ := h.late j hjd hunF
  rw [ho] at ho'; cases ho'
  -- what is behind it
  have behind : ∀ (v : V) (v' : Value) (w' : World) (g' : Ghost), (∀ t, o.dst = some t → tget f.t t = v) → VR g' v v' → GR g' st w0 base w' → Ext n0 g g' → (∀ d ∈ done, d ≠ j → listed.getD d false = false → ∀ m, nm d = some m → g'.κ m = g.κ m ∧ g'.θ m = g.θ m) →
      Kc (a.put o.dst v') w' := by
    intro v v' w' g' hv hr hG hext hnm
    refine hK _ w' g' ⟨by simpa using h.size, fun i hi => ?_, fun i p hi hp => ?_, h.topo, h.pairs, fun d hd hu => ?_, fun d hd e he hdu heu => ?_, hG, h.gl.mono hext.le, fun t ht => ?_, by rw [put_defs]; exact h.dr.mono hext.le, by rw [size_put]; exact h.tm, h.n0le⟩ hext
    · by_cases hij : j = i
      · subst hij; exact hjd
      · rw [getD_listed_ne hij] at hi; exact h.sub i hi
    · by_cases hij : j = i
      · subst hij; exact getD_set_true (hpre' p hp)
      · rw [getD_listed_ne hij] at hi; exact getD_set_true (h.closed i p hi hp)
    · have hdj : j ≠ d := fun e => by subst e; rw [getD_listed_eq hlt] at hu; cases hu
      rw [getD_listed_ne hdj] at hu
      obtain ⟨k1, k2⟩ := h.late d hd hu
      refine ⟨k1, k2.keep (fun _ _ => ⟨fun _ _ => rfl, fun _ _ => rfl⟩) (fun _ _ x => x) (Nat.le_refl _) (fun m hm x y _ => ?_)⟩
      obtain ⟨z1, z2⟩ := hnm d hd (Ne.symm hdj) hu m hm
      exact ⟨z1.trans x, z2.trans y⟩
    · have hdj : j ≠ d := fun x => by subst x; rw [getD_listed_eq hlt] at hdu; cases hdu
      have hej : j ≠ e := fun x => by subst x; rw [getD_listed_eq hlt] at heu; cases heu
      rw [getD_listed_ne hdj] at hdu
      rw [getD_listed_ne hej] at heu
      exact h.uniq d hd e he hdu heu
    · by_cases hdt : o.dst = some t
      · rw [hdt, getD_put a (h.dst_lt hall ho hdt) v' t, if_pos rfl, hv t hdt]; exact hr
      · have h1 : (a.put o.dst v').tmps.getD t undef = a.tmps.getD t undef := by
          cases hd : o.dst with
          | none => rfl
          | some d => rw [getD_put a (h.dst_lt hall ho hd) v' t, if_neg]; intro e; subst e; exact hdt hd
        rw [h1]
        refine (h.fr t fun d hd hu => ?_).mono hext.le
        by_cases hdj : d = j
        · subst hdj
          cases hx : dstIs ops d t with
          | false => rfl
          | true => obtain ⟨p, hp, hpd⟩ := dstIs_spec.1 hx; rw [ho] at hp; cases hp; exact absurd hpd hdt
        · exact ht d hd (by rw [getD_listed_ne (Ne.symm hdj)]; exact hu)
  unfold wpOp
  rw [ho]
  simp only
  have hw : ∀ b, wantedV f ops o = some b → Region.wanted o (yielded ops a.tmps) = b := fun b hb =>
    wantedV_sound (fun i hi => hlooks i (looks_guard hi)) (fun i hi => h.guard_lt hall o i hi) hb
  have hm := masked_VR (C := C) h.gl hlooks
  rcases hlz with ⟨a1, b1, c1⟩ | ⟨a1, b1, v, c1, e1⟩ | ⟨a1, b1, v, m, c1, e1⟩ | ⟨a1, v, ob, m, b1, c1, e1, i1, j1, k1, l1, q1⟩
  · rw [if_neg (by rw [hw _ a1]; simp)]
    exact behind (.tup []) undef w g c1 (VR_undef g) h.gr (Ext.refl _ _) (fun _ _ _ _ _ _ => ⟨rfl, rfl⟩)
  · rw [if_pos (hw _ a1)]
    rw [rdOp_congr (masked_eq (C := C))] at c1
    obtain ⟨v', h1, h2⟩ := rd_sound hC h.gr hm o c1
    refine .inl ?_
    unfold Oper.wp
    rw [h1, Oper.upon_value]
    exact behind v v' w g e1 h2 h.gr (Ext.refl _ _) (fun _ _ _ _ _ _ => ⟨rfl, rfl⟩)
  · rw [if_pos (hw _ a1)]
    rw [alOp_congr (masked_eq (C := C))] at c1
    obtain ⟨v', w', g', h1, h2, h3, h4, h5⟩ := al_sound h.gr hm o c1 (fun x hx => by cases hx)
    refine .inl ?_
    unfold Oper.wp
    rw [h1, Oper.upon_value]
    exact behind v v' w' g' e1 h3 h4 ⟨h2, fun i _ => h5 i (.inr rfl)⟩ (fun _ _ _ _ m _ => h5 m (.inr rfl))
  · rw [if_pos (hw _ a1)]
    rw [alOp_congr (masked_eq (C := C))] at c1
    obtain ⟨v', w', g', h1, h2, h3, h4, h5⟩ := al_sound h.gr hm o c1 (fun x hx => by cases hx; exact ⟨e1, i1, k1, l1⟩)
    refine .inl ?_
    unfold Oper.wp
    rw [h1, Oper.upon_value]
    refine behind v v' w' g' q1 h3 h4 ⟨h2, fun i hi => h5 i (.inl (by omega))⟩ (fun d hd hdj hu m' hm' => h5 m' (.inl fun e => ?_))
    subst e
    exact h.uniq d hd j hjd hu hunF hdj _ hm' b1

end
end Go.Vm
