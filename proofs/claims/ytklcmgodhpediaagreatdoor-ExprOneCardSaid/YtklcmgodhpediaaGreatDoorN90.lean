/- Ranges over maps of at most one entry. -/
import Derived.Test.YtklcmgodhpediaaGreatDoorN9
import Derived.Maps.RangeRun
set_option linter.unusedSimpArgs false
set_option linter.unusedVariables false
namespace Go.Vm
open Go Go.RowKit

section
variable {C : Cfg} {g : Ghost} {st : St} {w0 : W0} {base : Nat} {w : World}

theorem rangeV_sound (hG : GR g st w0 base w) {t : TypeId} {x v : V} {st' : St} (h : rangeV C st t x = some (v, st')) {x' : Value} (hx : VR g x x') :
    ∃ v' w' g', (Instr.range t x').run C.P w = .ok v' w' ∧ g.le g' ∧ (∀ i, i < st.n → g'.κ i = g.κ i ∧ g'.θ i = g.θ i) ∧ VR g' v v' ∧ GR g' st' w0 base w' := by
  have hn := hG.lim st.n (Nat.le_refl _)
  unfold rangeV at h
  split at h
  · rename_i key elem mb hu
    split at h
    · rename_i es hgm
      split at h
      · rename_i hl1
        cases h
        obtain ⟨B, hκ, rfl⟩ := hx
        obtain ⟨ob, es', ck, hob, hb, hes, hstm, hst⟩ := hG.map_obj hgm hκ
        have hl : es'.toList.length ≤ 1 := by rw [← hes.length]; exact hl1
        obtain ⟨b, hbb⟩ : ∃ b, ∀ e ∈ es'.toList, e.born = b := by
          match hL : es'.toList with
          | [] => exact ⟨0, fun e he => by cases he⟩
          | [e0] => exact ⟨e0.born, fun e he => by simp at he; rw [he]⟩
          | e0 :: e1 :: r => rw [hL] at hl; simp at hl
        have h2 := hG.add (some (.iter1 mb false))
        have hne : mb ≠ st.n := fun e => by subst e; rw [hn.1] at hκ; cases hκ
        obtain ⟨m1, m2⟩ := h2.mat2 (i := st.n) (ob := .iter1 mb false) (by simp [St.add, hget]) hn.1 hn.2 (by simp [St.add]) (b, ck, 0) (.mapIter (some B) ck #[] ck)
          ⟨B, b, ck, by simp only [Ghost.withκ, Ghost.withθ, hne, if_false]; exact hκ, by simp [Ghost.withθ], heap_new w _, fun o => hG.st_new (Nat.le_refl _) o⟩
        have hob' : hget (st.add (some (.iter1 mb false))).H mb = some ob := by
          simp only [St.add, hget, show (st.n == mb) = false by simp; omega, Bool.false_eq_true, if_false]
          exact hob
        have m3 := m1.reob (ob' := .pin1 es st.n) hob' fun B' hκ' _ => by
          have hκ2 : g.κ mb = some B' := by simpa [Ghost.withκ, Ghost.withθ, hne] using hκ'
          rw [hκ] at hκ2; cases hκ2
          refine ⟨es', ck, (heap_old w _ (Array.getElem?_eq_some_iff.1 hb).1).trans hb, hes.mono m2, hstm, hst, hl1, b, by simp [Ghost.withθ], hbb⟩
        have hH : hset (st.add (some (.iter1 mb false))).H mb (.pin1 es st.n) = (st.n, .iter1 mb false) :: hset st.H mb (.pin1 es st.n) := by
          simp only [St.add, hset, show (st.n == mb) = false by simp; omega, Bool.false_eq_true, if_false]
        rw [hH] at m3
        refine ⟨_, _, _, run_range_map w t key elem B es' ck hu hb, m2, fun i hi => ?_, ⟨w.heap.size, by simp [Ghost.withκ, Ghost.withθ], rfl⟩, m3⟩
        simp only [Ghost.withκ, Ghost.withθ]
        rw [if_neg (by omega), if_neg (by omega)]
        exact ⟨rfl, rfl⟩
      · cases h
    · cases h
  · rename_i key elem hu
    cases h
    simp only [VR] at hx; subst hx
    have h2 := hG.add (some .iter0)
    obtain ⟨m1, m2⟩ := h2.mat2 (i := st.n) (ob := .iter0) (by simp [St.add, hget]) hn.1 hn.2 (by simp [St.add]) (0, 0, 0) (.mapIter none 0 #[] 0) ⟨heap_new w _, fun o => hG.st_new (Nat.le_refl _) o⟩
    refine ⟨_, _, _, run_range_nilMap w t key elem hu, m2, fun i hi => ?_, ⟨w.heap.size, by simp [Ghost.withκ, Ghost.withθ], rfl⟩, m1⟩
    simp only [Ghost.withκ, Ghost.withθ]
    rw [if_neg (by omega), if_neg (by omega)]
    exact ⟨rfl, rfl⟩
  · cases h

theorem leftOf_nil {es : Array MapEntry} {b : Nat} (h : ∀ e ∈ es.toList, e.born = b) : (leftOf es #[b]).size = 0 := by
  unfold leftOf
  rw [Array.size_eq_zero_iff, Array.filter_eq_empty_iff]
  intro e he
  have := h e (by simpa using he)
  simp [this]

theorem nextV_sound (hG : GR g st w0 base w) {it v : V} {st' : St} (h : nextV st it = some (v, st')) {it' : Value} (hx : VR g it it') (ty : TypeId) :
    ∃ v' w', (Instr.next it' false ty).run C.P w = .ok v' w' ∧ VR g v v' ∧ GR g st' w0 base w' := by
  unfold nextV at h
  split at h
  · rename_i ib
    obtain ⟨Bi, hκi, rfl⟩ := hx
    split at h
    · rename_i hib
      cases h
      obtain ⟨hbi, _⟩ := hG.obj ib _ Bi hib hκi
      refine ⟨.tuple #[.bool false], w, ?_, ⟨#[.bool false], rfl, _, _, rfl, rfl, rfl⟩, hG⟩
      simp only [Instr.next, getObj, Sem.run_bind, Sem.run, hbi, Result.andThen]
      rfl
    · rename_i mb done hib
      split at h
      · rename_i es jb hmb
        split at h
        · rename_i hj
          subst hj
          obtain ⟨B, b, ck, hκ, hθ, hbi, hsti⟩ := hG.obj jb _ Bi hib hκi
          obtain ⟨es', ck2, hb, hes, hstm, hst, hl1, b2, hθ2, hbb⟩ := hG.obj mb _ B hmb hκ
          rw [hθ] at hθ2; cases hθ2
          have over : (done = true ∨ es = []) → ∃ v' w', (Instr.next (.pointer (some ⟨Bi, 0, none⟩)) false ty).run C.P w = .ok v' w' ∧ VR g (.tup [.bool false]) v' ∧ GR g ⟨hset st.H mb (.map es), st.n⟩ w0 base w' := by
            intro hor
            have hz : (leftOf es' (if done then #[b] else #[])).size = 0 := by
              rcases hor with rfl | rfl
              · exact leftOf_nil hbb
              · have hlen := hes.length
                have : es' = #[] := by apply Array.toList_inj.1; exact List.eq_nil_of_length_eq_zero hlen.symm
                subst this
                rfl
            have hG' := hG.reob (ob' := .map es) hmb fun B' hκ' _ => by
              rw [hκ] at hκ'; cases hκ'
              exact ⟨es', ck, hb, hes, hstm, hst⟩
            refine ⟨.tuple #[.bool false], w, ?_, ⟨#[.bool false], rfl, _, _, rfl, rfl, rfl⟩, hG'⟩
            rcases run_next_at (P := C.P) w ty Bi B ck ck (if done then #[b] else #[]) es' ck hbi hb hstm.2 (Nat.le_refl _) with ⟨_, hrun⟩ | ⟨e, he, _⟩
            · exact hrun
            · have := Array.eq_empty_of_size_eq_zero hz
              rw [this] at he; simp at he
          split at h
          · rename_i e0
            cases h
            rcases run_next_at (P := C.P) w ty Bi B ck ck #[] es' ck (by simpa using hbi) hb hstm.2 (Nat.le_refl _) with ⟨hz, _⟩ | ⟨e, he, w1, hw1, hrun⟩
            · exfalso
              have h1 := Array.eq_empty_of_size_eq_zero hz
              have hlen := hes.length
              have : es'.toList ≠ [] := fun e => by rw [e] at hlen; simp at hlen
              obtain ⟨e1, r, he1⟩ := List.exists_cons_of_ne_nil this
              have hm : e1 ∈ leftOf es' #[] := by
                unfold leftOf
                rw [Array.mem_filter]
                exact ⟨by rw [← Array.mem_toList_iff, he1]; exact List.mem_cons_self, by simp⟩
              rw [h1] at hm; simp at hm
            · have hem : e ∈ es'.toList := by
                unfold leftOf at he
                have := Array.mem_filter.1 (Array.mem_toList_iff.1 he)
                simpa using this.1
              obtain ⟨i, p, hi1, hi2, hk, hv⟩ := hes.get2 hem
              have hp : p = e0 := by
                cases i with
                | zero => simpa using hi2.symm
                | succ i => simp at hi2
              subst hp
              have hborn := hbb e hem
              have hG1 : GR g st w0 base w1 := by
                rcases hw1 with rfl | rfl
                · exact hG
                · exact hG.drew
              have hbi1 : w1.heap[Bi]? = some (.mapIter (some B) ck #[] ck) := by
                have hbi' : w.heap[Bi]? = some (.mapIter (some B) ck #[] ck) := by simpa using hbi
                rcases hw1 with rfl | rfl
                · exact hbi'
                · exact hbi'
              refine ⟨_, _, hrun, ⟨#[.bool true, e.key, e.val], rfl, _, _, rfl, rfl, _, _, rfl, hk, _, _, rfl, hv, rfl⟩, ?_⟩
              refine hG1.set_obj hib hκi hsti _ ⟨B, b, ck, hκ, hθ, ?_, hsti⟩
              rw [heap_setObj]
              simp [hbi1, hborn]
          · rename_i hne
            cases h
            refine over ?_
            cases done with
            | true => exact .inl rfl
            | false =>
              refine .inr ?_
              match es, hl1, hne with
              | [], _, _ => rfl
              | [e], _, hne => exact (hne e rfl rfl).elim
        · cases h
      · cases h
    · cases h
  · cases h

theorem entryV_sound (hG : GR g st w0 base w) {it v : V} {st' : St} (h : entryV st it = some (v, st')) {it' : Value} (hx : VR g it it') :
    st' = st ∧ ∃ v', (Instr.entry it').run C.P w = .ok v' w ∧ VR g v v' := by
  unfold entryV at h
  split at h
  · rename_i ib
    obtain ⟨Bi, hκi, rfl⟩ := hx
    split at h
    · rename_i mb hib
      split at h
      · rename_i e0 jb hmb
        split at h
        · rename_i hj
          subst hj
          cases h
          refine ⟨rfl, ?_⟩
          obtain ⟨B, b, ck, hκ, hθ, hbi, hsti⟩ := hG.obj jb _ Bi hib hκi
          obtain ⟨es', ck2, hb, hes, hstm, hst, hl1, b2, hθ2, hbb⟩ := hG.obj mb _ B hmb hκ
          rw [hθ] at hθ2; cases hθ2
          obtain ⟨e', he', hk, hv⟩ := hes.get (j := 0) (p := e0) rfl
          have hem : e' ∈ es'.toList := List.mem_of_getElem? he'
          have hnd : (es'.toList.map (·.born)).Nodup := (Stamped.iff.1 hstm).1.imp fun h => Nat.ne_of_lt h
          have hrun := run_entry_at (P := C.P) w Bi B ck #[] es' ck e' (by rw [hbb e' hem]; simpa using hbi) hb hem hnd
          exact ⟨_, hrun, ⟨#[e'.key, e'.val], rfl, _, _, rfl, hk, _, _, rfl, hv, rfl⟩⟩
        · cases h
      · cases h
    · cases h
  · cases h

theorem rangeV_n {t : TypeId} {x v : V} {st' : St} (h : rangeV C st t x = some (v, st')) : st.n ≤ st'.n := by
  unfold rangeV at h
  split at h
  · split at h
    · split at h
      · cases h; simp
      · cases h
    · cases h
  · cases h; simp
  · cases h
theorem nextV_n {it v : V} {st' : St} (h : nextV st it = some (v, st')) : st.n ≤ st'.n := by
  unfold nextV at h
  split at h
  · split at h
    · cases h; exact Nat.le_refl _
    · split at h
      · split at h
        · split at h <;> cases h <;> exact Nat.le_refl _
        · cases h
      · cases h
    · cases h
  · cases h
theorem entryV_st {it v : V} {st' : St} (h : entryV st it = some (v, st')) : st' = st := by
  unfold entryV at h
  split at h
  · split at h
    · split at h
      · split at h
        · cases h; rfl
        · cases h
      · cases h
    · cases h
  · cases h
end
end Go.Vm
