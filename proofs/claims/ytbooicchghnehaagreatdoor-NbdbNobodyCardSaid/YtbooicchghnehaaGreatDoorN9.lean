/- What an operation yields by the evaluator, it yields in the model: operations that write memory, and append. -/
import Derived.Test.YtbooicchghnehaaGreatDoorN6
import Derived.Maps.RangeRun
set_option linter.unusedSimpArgs false
set_option linter.unusedVariables false
namespace Go.Vm
open Go Go.RowKit

section
variable {C : Cfg} {g : Ghost} {w : World} {st : St} {w0 : W0} {base : Nat}

/-- Cells stored one behind the other: the row is another one. -/
theorem setCells_eq_setRow (B : Nat) (t : TypeId) (fz : Nat × Nat) : ∀ (vs : List Value) (o : Nat) (cur : Array Value) (w : World), w.heap[B]? = some (.cells cur t fz) → o + vs.length ≤ cur.size →
    w.setCells B o vs = w.setRow B (cur.toList.take o ++ vs ++ cur.toList.drop (o + vs.length)).toArray
  | [], o, cur, w, hb, _ => by
    simp only [World.setCells, List.append_nil, List.length_nil, Nat.add_zero, List.take_append_drop, Array.toArray_toList]
    exact (setRow_self w B cur t fz hb).symm
  | v :: vs, o, cur, w, hb, hl => by
    simp only [List.length_cons] at hl
    rw [World.setCells, setCell_eq_setRow w B o cur t fz v hb, setCells_eq_setRow B t fz vs (o + 1) (cur.setIfInBounds o v) (w.setRow B (cur.setIfInBounds o v)) (setRow_heap w B cur _ t fz hb) (by simp; omega), setRow_setRow]
    congr 2
    have e := list_seg_step cur.toList o v vs (by simp; omega)
    simpa [Array.toList_setIfInBounds, Nat.add_assoc] using e

theorem storeV_sound (hG : GR g st w0 base w) {t : TypeId} {a x : V} {H : List (Nat × Ob)} (h : storeH C st.H t a x = some H) {a' x' : Value} (ha : VR g a a') (hx : VR g x x') :
    ∃ w', (Instr.storeAt t a' x').run C.P w = .ok () w' ∧ GR g { st with H := H } w0 base w' := by
  unfold storeH at h
  split at h
  · rename_i b off s vs hs hc
    split at h
    · rename_i cs hget
      split at h
      · rename_i hle
        cases h
        obtain ⟨B, hκ, rfl⟩ := ha
        have hcx := cellsOf_VR hx hc
        have hcs := cellsOf_size hx hc
        obtain ⟨arr0, more, elem, fz, hb, hv, hfz, _⟩ := hG.obj b _ B hget hκ
        have hal := hv.length
        simp only [Array.length_toList] at hal
        generalize harr : arr0 ++ more = arr at hb hfz
        have hsa : arr.size = arr0.size + more.size := by rw [← harr, Array.size_append]
        have hpre : (arr.toList.take off ++ x'.cells.toList ++ arr.toList.drop (off + x'.cells.toList.length)).toArray = (arr0.toList.take off ++ x'.cells.toList ++ arr0.toList.drop (off + x'.cells.toList.length)).toArray ++ more := by
          apply Array.toList_inj.1
          rw [← harr, Array.toList_append, Array.toList_append, List.take_append_of_le_length (by simp; omega), List.drop_append_of_le_length (by simp; omega)]
          simp
        have hcell : ∀ j, j < x'.cells.toList.length → w.cell? ⟨B, off + j, none⟩ = some arr.toList[off + j]! := fun j hj => by
          simp only [Array.length_toList] at hj
          have : off + j < arr.size := by omega
          simp [World.cell?, hb, this]
        have hrun := run_storeCells_cells (P := C.P) B off x'.cells.toList 0 w (fun j hj => by rw [Nat.add_zero, hcell j hj]; rfl) (fun j hj => by
          simp only [Array.length_toList] at hj
          simp only [World.frozen?, hb, Nat.add_zero]
          have := hfz (off + j) (by omega)
          simp only [Bool.and_eq_false_iff, decide_eq_false_iff_not]
          omega) hcx.one
        rw [Nat.add_zero, setCells_eq_setRow B elem fz _ off arr w hb (by simp; omega), hpre] at hrun
        refine ⟨_, ?_, hG.set_cells hget hκ (cs' := putAt cs off vs) (vs' := (arr0.toList.take off ++ x'.cells.toList ++ arr0.toList.drop (off + x'.cells.toList.length)).toArray) (more' := more) ?_ hb (by simp; omega)⟩
        · have hsz : ¬ (x'.cells.size ≠ s) := by omega
          simp only [Instr.storeAt, storeVar, Instr.sureAddr, Sem.run_bind, Sem.run_pure, Result.andThen_ok, run_szOf hs, hsz, if_false, hrun]
        · have := hv.putAt off hcx
          simpa using this
      · cases h
    · cases h
  · cases h

/-! ### Maps -/
theorem setMap_find {k v : V} : ∀ {es es' : List (V × V)}, setMap k v es = some es' → (findV k es = some none ∧ es' = es ++ [(k, v)]) ∨ ∃ j u, findV k es = some (some u) ∧ j < es.length ∧ es' = es.set j (k, v) ∧
      (∀ i, i < j → ∃ p, es[i]? = some p ∧ eqCell k p.1 = some false) ∧ (∃ p, es[j]? = some p ∧ eqCell k p.1 = some true)
  | [], es', h => by simp only [setMap, Option.some.injEq] at h; subst h; exact .inl ⟨rfl, rfl⟩
  | (k2, v2) :: es, es', h => by
    simp only [setMap] at h
    cases he : eqCell k k2 with
    | none => rw [he] at h; cases h
    | some q =>
      rw [he] at h
      cases q
      · simp only at h
        cases hr : setMap k v es with
        | none => rw [hr] at h; cases h
        | some es2 =>
          rw [hr] at h; cases h
          rcases setMap_find hr with ⟨h1, rfl⟩ | ⟨j, u, h1, h2, rfl, h4, h5⟩
          · exact .inl ⟨by simp only [findV, he]; exact h1, rfl⟩
          · refine .inr ⟨j + 1, u, by simp only [findV, he]; exact h1, by simp; omega, rfl, fun i hi => ?_, by simpa using h5⟩
            cases i with
            | zero => exact ⟨(k2, v2), rfl, he⟩
            | succ i => simpa using h4 i (by omega)
      · simp only [Option.some.injEq] at h; subst h
        exact .inr ⟨0, v2, by simp only [findV, he], by simp, rfl, fun i hi => absurd hi (by omega), ⟨(k2, v2), rfl, he⟩⟩

theorem EsR.append {a b : List (V × V)} {x y : List MapEntry} (h : EsR g a x) (k : EsR g b y) : EsR g (a ++ b) (x ++ y) := by
  induction h with
  | nil => exact k
  | cons p q _ ih => exact .cons p q ih

theorem EsR.set {a : List (V × V)} {x : List MapEntry} (h : EsR g a x) {k v : V} {e : MapEntry} (hk : VR g k e.key) (hv : VR g v e.val) : ∀ j, EsR g (a.set j (k, v)) (x.set j e) := by
  induction h with
  | nil => intro j; exact .nil
  | cons p q r ih =>
    intro j
    cases j with
    | zero => exact .cons hk hv r
    | succ j => exact .cons p q (ih j)

theorem EsR.get {a : List (V × V)} {x : List MapEntry} (h : EsR g a x) : ∀ {j : Nat} {p : V × V}, a[j]? = some p → ∃ e, x[j]? = some e ∧ VR g p.1 e.key ∧ VR g p.2 e.val := by
  induction h with
  | nil => intro j p hp; simp at hp
  | cons p q r ih =>
    intro j p' hp
    cases j with
    | zero => simp at hp; subst hp; exact ⟨_, rfl, p, q⟩
    | succ j => simp at hp ⊢; exact ih hp

/-- Where a key is found: at the place that 'setMap' tells. -/
theorem findNow_at {d : TypeDesc} {k : V} (hT : keyT d k = true) {k' : Value} (hk : VR g k k') {es : List (V × V)} {es' : List MapEntry} (h : EsR g es es') : ∀ {j : Nat},
    (∀ i, i < j → ∃ p, es[i]? = some p ∧ eqCell k p.1 = some false) → (∃ p, es[j]? = some p ∧ eqCell k p.1 = some true) → ∀ i0, ∃ v', Instr.findNow d k' es' i0 = some (some (i0 + j, v')) := by
  induction h with
  | nil => intro j _ ⟨p, hp, _⟩ _; simp at hp
  | @cons k2 v2 e es es' hk2 hv2 hr ih =>
    intro j hlt hat i0
    cases j with
    | zero =>
      obtain ⟨p, hp, he⟩ := hat
      simp at hp; subst hp
      exact ⟨e.val, by simp only [Instr.findNow, eqCell_now hT he hk hk2]; rfl⟩
    | succ j =>
      obtain ⟨p, hp, he⟩ := hlt 0 (by omega)
      simp at hp; subst hp
      obtain ⟨v', h⟩ := ih (j := j) (fun i hi => by simpa using hlt (i + 1) (by omega)) (by simpa using hat) (i0 + 1)
      exact ⟨v', by simp only [Instr.findNow, eqCell_now hT he hk hk2]; rw [h]; congr 3; omega⟩

theorem keyT_bits {d : TypeDesc} {k k2 : V} (hT : keyT d k = true) (he : eqCell k k2 = some true) {k' k2' : Value} (hk : VR g k k') (hk2 : VR g k2 k2') : k2' = k' := by
  unfold keyT at hT
  split at hT
  · cases k2 <;> simp only [eqCell, reduceCtorEq] at he
    split at he
    · rename_i hkk
      simp only [Option.some.injEq, beq_iff_eq] at he
      simp only [VR] at hk hk2
      rw [hk, hk2, hkk, he]
    · cases he
  · cases k2 <;> simp only [eqCell, reduceCtorEq, Option.some.injEq, beq_iff_eq] at he
    simp only [VR] at hk hk2
    rw [hk, hk2, he]
  · cases hT

theorem sameBits_self {d : TypeDesc} {k : V} (hT : keyT d k = true) {k' : Value} (hk : VR g k k') (n : Nat) : Instr.sameBits n k' k' = true := by
  unfold keyT at hT
  split at hT
  · simp only [VR] at hk; subst hk; cases n <;> simp [Instr.sameBits]
  · simp only [VR] at hk; subst hk; cases n <;> simp only [Instr.sameBits, beq_toListBytes, beq_self_eq_true]
  · cases hT

theorem run_keyThatStays {d : TypeDesc} {k : V} (hT : keyT d k = true) {k' : Value} (hk : VR g k k') (w : World) : (Instr.keyThatStays k' k').run C.P w = .ok k' w := by
  simp only [Instr.keyThatStays, sameBits_self hT hk, if_true, Sem.run_pure]

/-! Keys that are structs. -/
theorem setG_find {key : TypeId} {k v : V} : ∀ {es es' : List (V × V)}, setG C key k v es = some es' → (findG C key k es = some none ∧ es' = es ++ [(k, v)]) ∨ ∃ j u, findG C key k es = some (some u) ∧ j < es.length ∧ es' = es.set j (k, v) ∧
      (∀ i, i < j → ∃ p, es[i]? = some p ∧ eqK C key k p.1 = some false) ∧ (∃ p, es[j]? = some p ∧ eqK C key k p.1 = some true)
  | [], es', h => by simp only [setG, Option.some.injEq] at h; subst h; exact .inl ⟨rfl, rfl⟩
  | (k2, v2) :: es, es', h => by
    simp only [setG] at h
    cases he : eqK C key k k2 with
    | none => rw [he] at h; cases h
    | some q =>
      rw [he] at h
      cases q
      · simp only at h
        cases hr : setG C key k v es with
        | none => rw [hr] at h; cases h
        | some es2 =>
          rw [hr] at h; cases h
          rcases setG_find hr with ⟨h1, rfl⟩ | ⟨j, u, h1, h2, rfl, h4, h5⟩
          · exact .inl ⟨by simp only [findG, he]; exact h1, rfl⟩
          · refine .inr ⟨j + 1, u, by simp only [findG, he]; exact h1, by simp; omega, rfl, fun i hi => ?_, by simpa using h5⟩
            cases i with
            | zero => exact ⟨(k2, v2), rfl, he⟩
            | succ i => simpa using h4 i (by omega)
      · simp only [Option.some.injEq] at h; subst h
        exact .inr ⟨0, v2, by simp only [findG, he], by simp, rfl, fun i hi => absurd hi (by omega), ⟨(k2, v2), rfl, he⟩⟩
/-- Where a key is found. -/
theorem findA_at (hC : COk C) {key : TypeId} {k : V} {k' : Value} (hk : VR g k k') (w : World) {es : List (V × V)} {es' : List MapEntry} (h : EsR g es es') : ∀ {j : Nat},
    (∀ i, i < j → ∃ p, es[i]? = some p ∧ eqK C key k p.1 = some false) → (∃ p, es[j]? = some p ∧ eqK C key k p.1 = some true) → ∀ i0, ∃ v', (Instr.findAsking key k' es' i0).run C.P w = .ok (some (i0 + j, v')) w := by
  induction h with
  | nil => intro j _ ⟨p, hp, _⟩ _; simp at hp
  | @cons k2 v2 e es es' hk2 hv2 hr ih =>
    intro j hlt hat i0
    cases j with
    | zero =>
      obtain ⟨p, hp, he⟩ := hat
      simp at hp; subst hp
      exact ⟨e.val, by simp only [Instr.findAsking, Sem.run_bind, (eqK_sound hC he hk hk2 w).1, Result.andThen_ok, if_true, Sem.run_pure]; rfl⟩
    | succ j =>
      obtain ⟨p, hp, he⟩ := hlt 0 (by omega)
      simp at hp; subst hp
      obtain ⟨v', h⟩ := ih (j := j) (fun i hi => by simpa using hlt (i + 1) (by omega)) (by simpa using hat) (i0 + 1)
      exact ⟨v', by simp only [Instr.findAsking, Sem.run_bind, (eqK_sound hC he hk hk2 w).1, Result.andThen_ok, Bool.false_eq_true, if_false]; rw [h, show i0 + 1 + j = i0 + (j + 1) by omega]⟩
theorem findKey_asking {key : TypeId} {fs : Array Field} (hkd : C.P.underlying key = some (.struct fs)) (k' : Value) (es' : List MapEntry) (w : World) : (Instr.findKey key k' es').run C.P w = (Instr.findAsking key k' es' 0).run C.P w := by
  cases es' with
  | nil => simp [Instr.findKey, Sem.run_bind, run_underlying hkd, Result.andThen_ok, Instr.findNow, Instr.findAsking]
  | cons e es' => simp only [Instr.findKey, Sem.run_bind, run_underlying hkd, Result.andThen_ok, findNow_struct]
theorem plainC_bits {c : V} (h : plainC c = true) {v : Value} (h1 : VR g c v) (n : Nat) : Instr.sameBits n v v = true := by
  cases c <;> simp only [plainC, reduceCtorEq, Bool.false_eq_true] at h <;> simp only [VR] at h1 <;> subst h1 <;> cases n <;> simp [Instr.sameBits, beq_toListBytes]
theorem plainL_bits {n : Nat} : ∀ {cs : List V} {vs : List Value}, cs.all plainC = true → VRs g cs vs → (vs.zip vs).all (fun p => Instr.sameBits n p.1 p.2) = true
  | [], _, _, h1 => by simp only [VRs] at h1; subst h1; rfl
  | c :: cs, _, h, ⟨v, vs', e1, _, h1, k1⟩ => by
    simp only [List.all_cons, Bool.and_eq_true] at h
    subst e1
    simp only [List.zip_cons_cons, List.all_cons, plainC_bits h.1 h1 n, Bool.true_and]
    exact plainL_bits h.2 k1
theorem run_keyStaysG {k : V} (hp : plainK k = true) {k' : Value} (hk : VR g k k') (w : World) : (Instr.keyThatStays k' k').run C.P w = .ok k' w := by
  cases k <;> simp only [plainK, reduceCtorEq, Bool.false_eq_true] at hp
  obtain ⟨vs, rfl, hvs⟩ := hk
  have : Instr.sameBits 10000 (.agg vs) (.agg vs) = true := by
    show Instr.sameBits (9999 + 1) (.agg vs) (.agg vs) = true
    simp only [Instr.sameBits, beq_self_eq_true, Bool.true_and]
    exact plainL_bits hp hvs
  simp only [Instr.keyThatStays, this, if_true, Sem.run_pure]
theorem EsR.erase {a : List (V × V)} {x : List MapEntry} (h : EsR g a x) : ∀ j, EsR g (a.eraseIdx j) (x.eraseIdx j) := by
  induction h with
  | nil => intro j; exact .nil
  | cons p q r ih =>
    intro j
    cases j with
    | zero => exact r
    | succ j => exact .cons p q (ih j)
theorem delG_find {E : V → V → Option Bool} {k : V} : ∀ {es es' : List (V × V)}, delG E k es = some es' → ((∀ (i : Nat) (p : V × V), es[i]? = some p → E k p.1 = some false) ∧ es' = es) ∨ ∃ j, j < es.length ∧ es' = es.eraseIdx j ∧
      (∀ i, i < j → ∃ p, es[i]? = some p ∧ E k p.1 = some false) ∧ (∃ p, es[j]? = some p ∧ E k p.1 = some true)
  | [], es', h => by simp only [delG, Option.some.injEq] at h; subst h; exact .inl ⟨fun i p hp => by simp at hp, rfl⟩
  | (k2, v2) :: es, es', h => by
    simp only [delG] at h
    cases he : E k k2 with
    | none => rw [he] at h; cases h
    | some q =>
      rw [he] at h
      cases q
      · simp only at h
        cases hr : delG E k es with
        | none => rw [hr] at h; cases h
        | some es2 =>
          rw [hr] at h; cases h
          rcases delG_find hr with ⟨h1, rfl⟩ | ⟨j, h1, rfl, h4, h5⟩
          · refine .inl ⟨fun i p hp => ?_, rfl⟩
            cases i with
            | zero => simp at hp; subst hp; exact he
            | succ i => exact h1 i p (by simpa using hp)
          · refine .inr ⟨j + 1, by simp; omega, rfl, fun i hi => ?_, by simpa using h5⟩
            cases i with
            | zero => exact ⟨(k2, v2), rfl, he⟩
            | succ i => simpa using h4 i (by omega)
      · simp only [Option.some.injEq] at h; subst h
        exact .inr ⟨0, by simp, rfl, fun i hi => absurd hi (by omega), ⟨(k2, v2), rfl, he⟩⟩
theorem findNow_none {d : TypeDesc} {k : V} (hT : keyT d k = true) {k' : Value} (hk : VR g k k') {es : List (V × V)} {es' : List MapEntry} (h : EsR g es es') : (∀ (i : Nat) (p : V × V), es[i]? = some p → eqCell k p.1 = some false) → ∀ i0, Instr.findNow d k' es' i0 = some none := by
  induction h with
  | nil => intro _ _; rfl
  | @cons k2 v2 e es es' hk2 hv2 hr ih =>
    intro hf i0
    simp only [Instr.findNow, eqCell_now hT (hf 0 (k2, v2) rfl) hk hk2]
    exact ih (fun i p hp => hf (i + 1) p (by simpa using hp)) _
theorem findA_none (hC : COk C) {key : TypeId} {k : V} {k' : Value} (hk : VR g k k') (w : World) {es : List (V × V)} {es' : List MapEntry} (h : EsR g es es') : (∀ (i : Nat) (p : V × V), es[i]? = some p → eqK C key k p.1 = some false) → ∀ i0, (Instr.findAsking key k' es' i0).run C.P w = .ok none w := by
  induction h with
  | nil => intro _ _; simp [Instr.findAsking]
  | @cons k2 v2 e es es' hk2 hv2 hr ih =>
    intro hf i0
    simp only [Instr.findAsking, Sem.run_bind, (eqK_sound hC (hf 0 (k2, v2) rfl) hk hk2 w).1, Result.andThen_ok, Bool.false_eq_true, if_false]
    exact ih (fun i p hp => hf (i + 1) p (by simpa using hp)) _

theorem mapUpdV_sound (hC : COk C) (hG : GR g st w0 base w) {t : TypeId} {m k x : V} {H : List (Nat × Ob)} (h : mapUpdH C st.H t m k x = some H) {m' k' x' : Value} (hm : VR g m m') (hk : VR g k k') (hx : VR g x x') :
    ∃ w', (Instr.mapUpdate t m' k' x').run C.P w = .ok () w' ∧ GR g { st with H := H } w0 base w' := by
  unfold mapUpdH at h
  split at h
  · rename_i key elem b hu
    split at h
    · rename_i kd es hkd hget
      split at h
      · rename_i hT
        cases hs : setMap k x es with
        | none => rw [hs] at h; cases h
        | some es2 =>
          rw [hs] at h; cases h
          obtain ⟨B, hκ, rfl⟩ := hm
          obtain ⟨ob0, es', ck, hg0, hb, hes, hstm, hst0⟩ := hG.map_obj hget hκ
          have hgo : (getObj B).run C.P w = .ok (.map es' ck) w := by simp [getObj, Sem.run, hb]
          have hso : ∀ o, (setObj B o).run C.P w = .ok () { w with heap := w.heap.setIfInBounds B o } := fun o => by simp [setObj, Sem.run, hb]
          have hc := keyT_check (C := C) hT hk hkd false 9999 w
          rcases setMap_find hs with ⟨h1, rfl⟩ | ⟨j, u, h1, h2, rfl, h4, h5⟩
          · have hfn := findV_sound hT hk h1 hes 0
            have hfk : (Instr.findKey key k' es'.toList).run C.P w = .ok none w := by simp only [Instr.findKey, Sem.run_bind, run_underlying hkd, Result.andThen_ok, hfn, Sem.run_pure]
            refine ⟨_, ?_, hG.set_map hg0 hκ hb hst0 (xs := es'.push { key := k', val := x', born := ck }) (ck + 1) ?_ ?_⟩
            · simp only [Instr.mapUpdate, Sem.run_bind, run_underlying hu, Result.andThen_ok, hgo, hc, hfk, hso]
            · rw [Array.toList_push]; exact hes.append (.cons hk hx .nil)
            · rw [Array.toList_push]
              refine ⟨List.pairwise_append.2 ⟨hstm.1, List.pairwise_singleton _ _, fun x hx y hy => ?_⟩, fun e he => ?_⟩
              · simp at hy; subst hy; exact hstm.2 x hx
              · rcases List.mem_append.1 he with he | he
                · have := hstm.2 e he; omega
                · simp at he; subst he; exact Nat.lt_succ_self ck
          · obtain ⟨v', hfn⟩ := findNow_at hT hk hes h4 h5 0
            rw [Nat.zero_add] at hfn
            have hfk : (Instr.findKey key k' es'.toList).run C.P w = .ok (some (j, v')) w := by simp only [Instr.findKey, Sem.run_bind, run_underlying hkd, Result.andThen_ok, hfn, Sem.run_pure]
            obtain ⟨p, hp, he⟩ := h5
            obtain ⟨e, he1, he2, he3⟩ := hes.get hp
            have hkey := keyT_bits hT he hk he2
            have he1' : es'[j]? = some e := by rw [← Array.getElem?_toList]; exact he1
            have hborn : ∀ h, es'[j]'h = e := fun h => (Array.getElem?_eq_some_iff.1 he1').2
            refine ⟨_, ?_, hG.set_map hg0 hκ hb hst0 (xs := es'.modify j fun e => { e with key := k', val := x' }) ck ?_ ?_⟩
            · simp only [Instr.mapUpdate, Sem.run_bind, run_underlying hu, Result.andThen_ok, hgo, hc, hfk, he1', Option.map_some, Option.getD_some, hkey, run_keyThatStays hT hk, hso]
            rotate_left
            · have hbm : (es'.modify j fun e => { e with key := k', val := x' }).toList.map (·.born) = es'.toList.map (·.born) := by
                apply List.ext_getElem?
                intro i
                simp only [List.getElem?_map, Array.getElem?_toList, Array.getElem?_modify]
                split
                · cases es'[i]? <;> rfl
                · rfl
              exact hstm.congr hbm
            · have hlt : j < es'.size := (Array.getElem?_eq_some_iff.1 he1').1
              have : (es'.modify j fun e => { e with key := k', val := x' }).toList = es'.toList.set j { e with key := k', val := x' } := by
                apply List.ext_getElem?
                intro i
                rw [Array.getElem?_toList, Array.getElem?_modify, List.getElem?_set]
                by_cases hij : j = i
                · subst hij; simp [he1', hlt, hborn]
                · simp [hij]
              rw [this]
              exact hes.set (e := { e with key := k', val := x' }) hk hx j
      · split at h
        · rename_i hT
          obtain ⟨⟨fs, rfl⟩, hpk, hck⟩ := keyG_struct hT
          cases hs : setG C key k x es with
          | none => rw [hs] at h; cases h
          | some es2 =>
            rw [hs] at h; cases h
            obtain ⟨B, hκ, rfl⟩ := hm
            obtain ⟨ob0, es', ck, hg0, hb, hes, hstm, hst0⟩ := hG.map_obj hget hκ
            have hgo : (getObj B).run C.P w = .ok (.map es' ck) w := by simp [getObj, Sem.run, hb]
            have hso : ∀ o, (setObj B o).run C.P w = .ok () { w with heap := w.heap.setIfInBounds B o } := fun o => by simp [setObj, Sem.run, hb]
            have hc : (Instr.checkKey false 10000 key k').run C.P w = .ok () w := ckK_sound 9 hck hk _ _ (by decide) w
            rcases setG_find hs with ⟨h1, rfl⟩ | ⟨j, u, h1, h2, rfl, h4, h5⟩
            · have hfk : (Instr.findKey key k' es'.toList).run C.P w = .ok none w := by
                rcases findG_sound hC hkd hk w h1 hes with ⟨_, h⟩ | ⟨u, j, u', h, _⟩
                · exact h
                · cases h
              refine ⟨_, ?_, hG.set_map hg0 hκ hb hst0 (xs := es'.push { key := k', val := x', born := ck }) (ck + 1) ?_ ?_⟩
              · simp only [Instr.mapUpdate, Sem.run_bind, run_underlying hu, Result.andThen_ok, hgo, hc, hfk, hso]
              · rw [Array.toList_push]; exact hes.append (.cons hk hx .nil)
              · rw [Array.toList_push]
                refine ⟨List.pairwise_append.2 ⟨hstm.1, List.pairwise_singleton _ _, fun x hx y hy => ?_⟩, fun e he => ?_⟩
                · simp at hy; subst hy; exact hstm.2 x hx
                · rcases List.mem_append.1 he with he | he
                  · have := hstm.2 e he; omega
                  · simp at he; subst he; exact Nat.lt_succ_self ck
            · obtain ⟨v', hfn⟩ := findA_at hC hk w hes h4 h5 0
              rw [Nat.zero_add] at hfn
              have hfk : (Instr.findKey key k' es'.toList).run C.P w = .ok (some (j, v')) w := by rw [findKey_asking hkd]; exact hfn
              obtain ⟨p, hp, he⟩ := h5
              obtain ⟨e, he1, he2, he3⟩ := hes.get hp
              have hkey : e.key = k' := by
                have e1 := (eqK_sound hC he hk he2 w).2 rfl
                rw [← e1] at he2
                exact plainK_VR hpk he2 hk
              have he1' : es'[j]? = some e := by rw [← Array.getElem?_toList]; exact he1
              have hborn : ∀ h, es'[j]'h = e := fun h => (Array.getElem?_eq_some_iff.1 he1').2
              refine ⟨_, ?_, hG.set_map hg0 hκ hb hst0 (xs := es'.modify j fun e => { e with key := k', val := x' }) ck ?_ ?_⟩
              · simp only [Instr.mapUpdate, Sem.run_bind, run_underlying hu, Result.andThen_ok, hgo, hc, hfk, he1', Option.map_some, Option.getD_some, hkey, run_keyStaysG hpk hk, hso]
              rotate_left
              · have hbm : (es'.modify j fun e => { e with key := k', val := x' }).toList.map (·.born) = es'.toList.map (·.born) := by
                  apply List.ext_getElem?
                  intro i
                  simp only [List.getElem?_map, Array.getElem?_toList, Array.getElem?_modify]
                  split
                  · cases es'[i]? <;> rfl
                  · rfl
                exact hstm.congr hbm
              · have hlt : j < es'.size := (Array.getElem?_eq_some_iff.1 he1').1
                have : (es'.modify j fun e => { e with key := k', val := x' }).toList = es'.toList.set j { e with key := k', val := x' } := by
                  apply List.ext_getElem?
                  intro i
                  rw [Array.getElem?_toList, Array.getElem?_modify, List.getElem?_set]
                  by_cases hij : j = i
                  · subst hij; simp [he1', hlt, hborn]
                  · simp [hij]
                rw [this]
                exact hes.set (e := { e with key := k', val := x' }) hk hx j
        · cases h
    · cases h
  · cases h

theorem delH_sound (hC : COk C) (hG : GR g st w0 base w) {t : TypeId} {m k : V} {H : List (Nat × Ob)} (h : delH C st.H t m k = some H) {m' k' : Value} (hm : VR g m m') (hk : VR g k k') (u ty : TypeId) :
    ∃ w', (Builtin.delete_ #[t, u] ty #[m', k']).run C.P w = .ok (.tuple #[]) w' ∧ GR g { st with H := H } w0 base w' := by
  unfold delH at h
  split at h
  · rename_i key elem b hu
    split at h
    · rename_i kd es hkd hget
      obtain ⟨B, hκ, rfl⟩ := hm
      obtain ⟨ob0, es', ck, hg0, hb, hes, hstm, hst0⟩ := hG.map_obj hget hκ
      have hgo : (getObj B).run C.P w = .ok (.map es' ck) w := by simp [getObj, Sem.run, hb]
      have hso : ∀ o, (setObj B o).run C.P w = .ok () { w with heap := w.heap.setIfInBounds B o } := fun o => by simp [setObj, Sem.run, hb]
      have main : ∀ (E : V → V → Option Bool) (es2 : List (V × V)), delG E k es = some es2 → (∀ em, (Instr.checkKey em 10000 key k').run C.P w = .ok () w) →
          ((∀ (i : Nat) (p : V × V), es[i]? = some p → E k p.1 = some false) → (Instr.findKey key k' es'.toList).run C.P w = .ok none w) →
          (∀ j, (∀ i, i < j → ∃ p, es[i]? = some p ∧ E k p.1 = some false) → (∃ p, es[j]? = some p ∧ E k p.1 = some true) → ∃ v', (Instr.findKey key k' es'.toList).run C.P w = .ok (some (j, v')) w) →
          ∃ w', (Builtin.delete_ #[t, u] ty #[.map (some B), k']).run C.P w = .ok (.tuple #[]) w' ∧ GR g { st with H := hset st.H b (.map es2) } w0 base w' := by
        intro E es2 hd hc hnone hsome
        rcases delG_find hd with ⟨h1, rfl⟩ | ⟨j, h2, rfl, h4, h5⟩
        · have hfk := hnone h1
          refine ⟨_, ?_, hG.set_map hg0 hκ hb hst0 (xs := es') ck hes hstm⟩
          simp only [Builtin.delete_, List.getElem?_toArray, List.getElem?_cons_zero, List.getElem?_cons_succ, Sem.run_bind, run_underlying hu, Result.andThen_ok, hgo, hc, hfk, hso, Sem.run_pure]
        · obtain ⟨v', hfk⟩ := hsome j h4 h5
          refine ⟨_, ?_, hG.set_map hg0 hκ hb hst0 (xs := es'.eraseIdxIfInBounds j) ck ?_ ?_⟩
          · simp only [Builtin.delete_, List.getElem?_toArray, List.getElem?_cons_zero, List.getElem?_cons_succ, Sem.run_bind, run_underlying hu, Result.andThen_ok, hgo, hc, hfk, hso, Sem.run_pure]
          · have : (es'.eraseIdxIfInBounds j).toList = es'.toList.eraseIdx j := by
              unfold Array.eraseIdxIfInBounds
              split
              · simp
              · rename_i hlt
                rw [List.eraseIdx_of_length_le]
                simpa using hlt
            rw [this]; exact hes.erase j
          · have : (es'.eraseIdxIfInBounds j).toList = es'.toList.eraseIdx j := by
              unfold Array.eraseIdxIfInBounds
              split
              · simp
              · rename_i hlt
                rw [List.eraseIdx_of_length_le]
                simpa using hlt
            refine ⟨?_, fun e he => hstm.2 e ?_⟩
            · rw [this]; exact hstm.1.sublist (List.eraseIdx_sublist _ _)
            · rw [this] at he; exact (List.eraseIdx_sublist _ _).mem he
      split at h
      · rename_i hT
        cases hs : delG eqCell k es with
        | none => rw [hs] at h; cases h
        | some es2 =>
          rw [hs] at h; cases h
          refine main eqCell es2 hs (fun em => keyT_check (C := C) hT hk hkd em 9999 w) (fun hn => ?_) (fun j h4 h5 => ?_)
          · have hfn := findNow_none hT hk hes hn 0
            simp only [Instr.findKey, Sem.run_bind, run_underlying hkd, Result.andThen_ok, hfn, Sem.run_pure]
          · obtain ⟨v', hfn⟩ := findNow_at hT hk hes h4 h5 0
            rw [Nat.zero_add] at hfn
            exact ⟨v', by simp only [Instr.findKey, Sem.run_bind, run_underlying hkd, Result.andThen_ok, hfn, Sem.run_pure]⟩
      · split at h
        · rename_i hT
          obtain ⟨⟨fs, rfl⟩, hpk, hck⟩ := keyG_struct hT
          cases hs : delG (eqK C key) k es with
          | none => rw [hs] at h; cases h
          | some es2 =>
            rw [hs] at h; cases h
            refine main (eqK C key) es2 hs (fun em => ckK_sound 9 hck hk _ _ (by decide) w) (fun hn => ?_) (fun j h4 h5 => ?_)
            · rw [findKey_asking hkd]; exact findA_none hC hk w hes hn 0
            · obtain ⟨v', hfn⟩ := findA_at hC hk w hes h4 h5 0
              rw [Nat.zero_add] at hfn
              exact ⟨v', by rw [findKey_asking hkd]; exact hfn⟩
        · cases h
    · cases h
  · cases h

/-! ### append -/
theorem addedV_src (hG : GR g st w0 base w) {tu : TypeId} (hu : (∃ e, C.P.underlying tu = some (.slice e)) ∨ C.P.underlying tu = some .string) {s : Nat} {y : V} {ys : List V} (h : addedV s y = some ys) {y' : Value} (hy : VR g y y')
    (hs : C.P.underlying tu = some .string → s = 1 ∨ ∃ tip zs, y = .sl tip zs) :
    ∃ news, Src C.P s tu y' ys.length news w ∧ VRe g s ys news := by
  unfold addedV at h
  split at h
  · rename_i tip zs
    split at h
    · rename_i hok
      cases h
      obtain ⟨a, cap, vs, S, rfl, h2, h3, h4, h5⟩ := hy
      have hkind : (∃ e', C.P.underlying tu = some (.slice e')) ∨ C.P.underlying tu = some .string := hu
      by_cases hne : ys = []
      · subst hne
        have hvs : vs = [] := by simpa [VRe] using h2
        refine ⟨[], ⟨hkind, fun _ => rfl, ?_, ?_, by simp, fun _ h => by cases h⟩, rfl⟩
        · cases a with
          | none => rfl
          | some a => simp [Builtin.firstCells, loadCells, loadCellsFrom]
        · cases a with
          | none => rfl
          | some a => simp [Builtin.firstCells, loadCells, loadCellsFrom]
      · obtain ⟨B, o, rfl, hrow⟩ := h5 hne
        have hS := h2.size hok hne
        subst hS
        have hl := h2.length
        have hr := hG.reads hrow
        refine ⟨vs, ⟨hkind, fun _ => rfl, run_firstCells_some w S ys.length ⟨B, o, none⟩ _ _ vs hl (fun j u hj => by rw [add_addr]; exact hr j u hj), ?_, hl, h2.one⟩, h2⟩
        exact run_firstCells_some w.drew S ys.length ⟨B, o, none⟩ _ _ vs hl (fun j u hj => by rw [add_addr]; exact hr j u hj)
    · cases h
  · rename_i l
    split at h
    · rename_i hs1
      cases h
      subst hs1
      simp only [VR] at hy; subst hy
      have hl : (ofBytes l).length = l.length := by simp [ofBytes]
      rw [hl]
      refine ⟨l.map fun b => Value.int .u8 b.toNat, ?_, toByteCells l⟩
      have e : byteCells ⟨l.toArray⟩ = l.map fun b => Value.int .u8 b.toNat := rfl
      have h1 := firstCells_string (P := C.P) ⟨l.toArray⟩ w
      have h2 := firstCells_string (P := C.P) ⟨l.toArray⟩ w.drew
      rw [e] at h1 h2
      exact ⟨hu, fun _ => rfl, h1, h2, by simp, fun u hu => by obtain ⟨_, _, rfl⟩ := List.mem_map.1 hu; rfl⟩
    · cases h
  · cases h

theorem VRe.resize {S s : Nat} {xs : List V} {vs : List Value} (h : VRe g S xs vs) (hs : xs ≠ [] → S = s) : VRe g s xs vs := by
  cases xs with
  | nil => exact h
  | cons x xs => rw [← hs (by simp)]; exact h

/-- A slice's tip goes on in its own room. -/
theorem GR.app_room (h : GR g st w0 base w) {t B e tot s : Nat} (ht : hget st.H t = some (.tip s)) (hκ : g.κ t = some B) (hθ : g.θ t = some (e, tot, s)) {news : List Value} (hfit : e + news.length ≤ tot) :
    ∃ arr elem fz, w.heap[B]? = some (.cells arr elem fz) ∧ tot ≤ arr.size ∧ Free fz arr.size ∧
      let g' : Ghost := { κ := fun i => if i = st.n then some B else g.κ i, θ := fun i => if i = st.n then some (e + news.length, tot, s) else g.θ i, st := fun b o => if b = B ∧ e ≤ o ∧ o < e + news.length then news[o - e]? else g.st b o }
      g.le g' ∧ GR g' ⟨(st.n, .tip s) :: hdel st.H t, st.n + 1⟩ w0 base (w.setRow B (arr.toList.take e ++ news ++ arr.toList.drop (e + news.length)).toArray) := by
  obtain ⟨e', tot', arr, elem, fz, h1, h2, h3, h4, h5⟩ := h.obj t _ B ht hκ
  rw [hθ] at h1; cases h1
  have hsz : (arr.toList.take e ++ news ++ arr.toList.drop (e + news.length)).toArray.size = arr.size := by simp; omega
  have hn := h.lim st.n (Nat.le_refl _)
  have htn : t < st.n := h.top _ (hget_mem ht)
  refine ⟨arr, elem, fz, h2, h3, h4, ?_⟩
  intro g'
  have hl : g.le g' := by
    refine ⟨fun i b hi => ?_, fun i x hi => ?_, fun b o v hv => ?_⟩
    · simp only [g']; split
      · rename_i he; subst he; rw [hn.1] at hi; cases hi
      · exact hi
    · simp only [g']; split
      · rename_i he; subst he; rw [hn.2] at hi; cases hi
      · exact hi
    · simp only [g']; split
      · rename_i he; obtain ⟨rfl, h6, _⟩ := he; rw [h5 o h6] at hv; cases hv
      · exact hv
  have sub : ∀ i ob, hget (hdel st.H t) i = some ob → hget st.H i = some ob := fun i ob hi => h.sorted.sub_get (hdel_sub _ _) hi
  have nott : ∀ i ob, hget (hdel st.H t) i = some ob → i ≠ t := fun i ob hi he => by
    subst he
    have hm := hget_mem hi
    have : ∀ (H : List (Nat × Ob)), Sorted H → ∀ ob, (i, ob) ∉ hdel H i := by
      intro H
      induction H with
      | nil => intro _ ob hm; cases hm
      | cons p r ih =>
        intro hs ob hm
        obtain ⟨j, q⟩ := p
        have hs' := List.pairwise_cons.1 hs
        simp only [hdel] at hm
        split at hm
        · rename_i hj; simp at hj; subst hj
          have := hs'.1 _ hm; simp at this
        · rename_i hj; simp at hj
          cases hm with
          | head => exact hj rfl
          | tail _ hm => exact ih hs'.2 ob hm
    exact this _ h.sorted ob hm
  have getn : ∀ i ob, hget ((st.n, Ob.tip s) :: hdel st.H t) i = some ob → (i = st.n ∧ ob = .tip s) ∨ (i ≠ st.n ∧ i ≠ t ∧ hget st.H i = some ob) := fun i ob hi => by
    simp only [hget] at hi
    split at hi
    · rename_i he; simp at he; cases hi; exact .inl ⟨he.symm, rfl⟩
    · rename_i he; simp at he; exact .inr ⟨fun e => he e.symm, nott i ob hi, sub i ob hi⟩
  have other : ∀ i ob b, hget st.H i = some ob → i ≠ t → g.κ i = some b → b ≠ B := fun i ob b hi hit hb e => hit (h.excl i t ob _ B hi ht (e ▸ hb) hκ)
  refine ⟨hl, below_setRow h.below (h.old t _ B ht hκ) _, by simp; exact h.lim0, ?_, ?_, ?_, ?_, ?_, ?_, ?_, fun b o hlt => ?_⟩
  rotate_right
  · have hbB := h.old t _ B ht hκ
    simp only [g', show b ≠ B by omega, false_and, if_false]
    exact h.lo b o hlt
  · intro b o v hv
    by_cases hb : b = B
    · subst hb
      rw [cell_setRow_same w b o arr _ elem fz h2]
      simp only [g'] at hv
      split at hv
      · rename_i he
        obtain ⟨_, h6, h7⟩ := he
        have hlt : o - e < news.length := by omega
        simp only [List.getElem?_toArray, List.append_assoc]
        rw [List.getElem?_append_right (by simp; omega), List.getElem?_append_left (by simp; omega)]
        simp only [List.length_take, Array.length_toList]
        rw [show min e arr.size = e by omega]
        exact hv
      · rename_i he
        have hoe : o < e := by
          rcases Nat.lt_or_ge o e with h6 | h6
          · exact h6
          · rw [h5 o h6] at hv; cases hv
        have hc := h.stab b o v hv
        simp only [World.cell?, h2, Option.isSome_none, Bool.false_eq_true, if_false] at hc
        simp only [List.getElem?_toArray, List.append_assoc]
        rw [List.getElem?_append_left (by simp; omega), List.getElem?_take, if_pos hoe, Array.getElem?_toList]
        exact hc
    · rw [cell_setRow_other _ _ _ _ hb]
      simp only [g', hb, false_and, if_false] at hv
      exact h.stab b o v hv
  · intro i ob b hi hb
    rcases getn i ob hi with ⟨rfl, rfl⟩ | ⟨hin, hit, hi'⟩
    · simp only [g', if_true] at hb
      cases hb
      refine ⟨e + news.length, tot, _, elem, fz, by simp [g'], setRow_heap w B arr _ elem fz h2, by rw [hsz]; exact h3, by rw [hsz]; exact h4, fun o ho => ?_⟩
      simp only [g']
      rw [if_neg (by omega)]
      exact h5 o (by omega)
    · have hb' : g.κ i = some b := by simpa [g', hin] using hb
      have hne := other i ob b hi' hit hb'
      refine (h.obj i ob b hi' hb').keep hl (setRow_other w B b _ hne) (fun o ho => ?_) (fun x hx => by simpa [g', hin] using hx)
      simp only [g', hne, false_and, if_false]; exact ho
  · intro i j oi oj b hi hj hbi hbj
    rcases getn i oi hi with ⟨rfl, rfl⟩ | ⟨hin, hit, hi'⟩ <;> rcases getn j oj hj with ⟨rfl, rfl⟩ | ⟨hjn, hjt, hj'⟩
    · rfl
    · simp only [g', if_true] at hbi; cases hbi
      have hb' : g.κ j = some B := by simpa [g', hjn] using hbj
      exact absurd rfl (other j oj B hj' hjt hb')
    · simp only [g', if_true] at hbj; cases hbj
      have hb' : g.κ i = some B := by simpa [g', hin] using hbi
      exact absurd rfl (other i oi B hi' hit hb')
    · exact h.excl i j oi oj b hi' hj' (by simpa [g', hin] using hbi) (by simpa [g', hjn] using hbj)
  · intro i ob b hi hb
    rcases getn i ob hi with ⟨rfl, rfl⟩ | ⟨hin, hit, hi'⟩
    · simp only [g', if_true] at hb; cases hb; exact h.old t _ B ht hκ
    · exact h.old i ob b hi' (by simpa [g', hin] using hb)
  · intro i hi
    simp only at hi
    have := h.lim i (by omega)
    simp only [g']
    rw [if_neg (by omega), if_neg (by omega)]
    exact this
  · exact List.pairwise_cons.2 ⟨fun p hp => h.top p ((hdel_sub _ _).subset hp), h.sorted.sub (hdel_sub _ _)⟩
  · intro p hp
    simp only at hp ⊢
    cases hp with
    | head => simp
    | tail _ hp => have := h.top p ((hdel_sub _ _).subset hp); omega

theorem zeroOk_spec {t : TypeId} {s : Nat} (h : zeroOk C t s = true) : ∃ i z, C.P.info? t = some i ∧ i.zero = some z ∧ z.cells.size = s := by
  unfold zeroOk at h
  split at h
  · rename_i z hz
    simp only [Bool.and_eq_true, beq_iff_eq] at h
    obtain ⟨i, zv, h1, h2, h3⟩ := zeroV_info hz
    have hr : VR (⟨fun _ => none, fun _ => none, fun _ _ => none⟩ : Ghost) z zv := by rw [h3]; exact ofVal_VR _ zv
    have hc := VC_of hr h.1
    have := hc.ncells
    rw [h.2] at this
    exact ⟨i, zv, h1, h2, by simpa using this.symm⟩
  · cases h

/-- There is no room: a new row. -/
theorem GR.app_grow (hG : GR g st w0 base w) {H' : List (Nat × Ob)} (hs : H'.Sublist st.H) (vs : List Value) (more : Array Value) (elem : TypeId) {tot s : Nat} (htot : tot ≤ vs.length + more.size) :
    let g' := ((g.withRow w.heap.size vs).withκ st.n w.heap.size).withθ st.n (vs.length, tot, s)
    g.le g' ∧ GR g' ⟨(st.n, .tip s) :: H', st.n + 1⟩ w0 base (w.drew.alloc (.cells (vs.toArray ++ more) elem)) := by
  have h1 := (hG.drew.sub hs (n' := st.n) (Nat.le_refl _)).add (some (.tip s))
  have hn := hG.lim st.n (Nat.le_refl _)
  have := h1.mat_tip (i := st.n) (S := s) (by simp [St.add, hget]) hn.1 hn.2 (by simp [St.add]) vs more elem (0, 0) htot (fun y _ hy => by simp at hy)
  exact ⟨this.2, this.1⟩

/-! Slices that may be written. -/
theorem elemCells_VC {x : V} {ch : List Value} (h : VC g x ch) : VRs g (elemCells x) ch := by
  cases x <;> simp only [VC, elemCells] at h ⊢ <;> first
    | exact h
    | (obtain ⟨v, rfl, h1, h2⟩ := h; exact ⟨v, [], rfl, h1, h2, rfl⟩)
theorem flatE_VRs {S : Nat} : ∀ {xs : List V} {vs : List Value}, VRe g S xs vs → VRs g (flatE xs) vs
  | [], vs, h => by simp only [VRe] at h; subst h; rfl
  | x :: xs, vs, h => by
    obtain ⟨ch, vs', rfl, _, _, h3, h4⟩ := VRe_cons.1 h
    exact (elemCells_VC h3).append (flatE_VRs h4)
theorem flatE_ofBytes (l : List UInt8) : flatE (ofBytes l) = ofBytes l := by
  unfold flatE ofBytes
  induction l with
  | nil => rfl
  | cons b l ih => simp only [List.map_cons, List.flatMap_cons, elemCells, List.cons_append, List.nil_append]; rw [ih]

theorem addedH_src (hG : GR g st w0 base w) {tu : TypeId} (hu : (∃ e, C.P.underlying tu = some (.slice e)) ∨ C.P.underlying tu = some .string) {s : Nat} {y : V} {k : Nat} {ycs : List V} (h : addedH st.H s y = some (k, ycs)) {y' : Value} (hy : VR g y y') :
    ∃ news, Src C.P s tu y' k news w ∧ VRs g ycs news := by
  unfold addedH at h
  split at h
  · rename_i tip ys
    split at h
    · rename_i hok
      cases h
      obtain ⟨news, h1, h2⟩ := addedV_src (C := C) hG hu (s := s) (y := .sl tip ys) (ys := ys) (by simp only [addedV, hok, if_true]) hy (fun _ => .inr ⟨_, _, rfl⟩)
      exact ⟨news, h1, flatE_VRs h2⟩
    · cases h
  · rename_i l
    split at h
    · rename_i h1
      cases h
      obtain ⟨news, h2, h3⟩ := addedV_src (C := C) hG hu (s := s) (y := .str l) (ys := ofBytes l) (by simp only [addedV, h1, if_true]) hy (fun _ => .inl h1)
      have := flatE_VRs h3
      rw [flatE_ofBytes] at this
      refine ⟨news, ?_, this⟩
      simpa [ofBytes] using h2
    · cases h
  · rename_i b off len cap
    split at h
    · rename_i cs hget
      split at h
      · rename_i hle
        cases h
        obtain ⟨B, hκ, cap', rfl, hcap, _⟩ := hy
        obtain ⟨vs, h1, h2, _⟩ := hG.reads_obj hget hκ
        have hl : ((vs.drop off).take (k * s)).length = k * s := by have := h1.length; simp; omega
        have hv := (h1.drop off).take (k * s)
        have hr : ∀ j u, ((vs.drop off).take (k * s))[j]? = some u → w.cell? ⟨B, off + j, none⟩ = some u := fun j u hj => by
          rw [List.getElem?_take] at hj
          split at hj
          · rw [List.getElem?_drop] at hj
            have := h2 (off + j) u hj
            simpa using this
          · cases hj
        refine ⟨_, ⟨hu, fun _ => rfl, run_firstCells_some w s k ⟨B, off, none⟩ _ _ _ hl (fun j u hj => by rw [add_addr]; exact hr j u hj), ?_, hl, hv.one⟩, hv⟩
        exact run_firstCells_some w.drew s k ⟨B, off, none⟩ _ _ _ hl (fun j u hj => by rw [add_addr]; exact hr j u hj)
      · cases h
    · cases h
  · cases h

/-- A slice that may be written goes on in its own room. -/
theorem GR.app_roomM (h : GR g st w0 base w) {t B e tot s : Nat} {cs ycs : List V} (ht : hget st.H t = some (.cells cs)) (hκ : g.κ t = some B) (hθ : g.θ t = some (e, tot, s)) {news : List Value} (hv : VRs g ycs news) (hfit : cs.length + news.length ≤ tot) :
    ∃ arr elem fz, w.heap[B]? = some (.cells arr elem fz) ∧ tot ≤ arr.size ∧ Free fz arr.size ∧
      let g' : Ghost := { κ := fun i => if i = st.n then some B else g.κ i, θ := fun i => if i = st.n then some (e, tot, s) else g.θ i, st := g.st }
      g.le g' ∧ GR g' ⟨(st.n, .cells (cs ++ ycs)) :: hdel st.H t, st.n + 1⟩ w0 base (w.setRow B (arr.toList.take cs.length ++ news ++ arr.toList.drop (cs.length + news.length)).toArray) := by
  obtain ⟨vs, more, elem, fz, h2, hvs, h4, h5, hrm⟩ := h.obj t _ B ht hκ
  have h3 := hrm e tot s hθ
  generalize harr : vs ++ more = arr at h2 h3 h4
  have hcl := hvs.length
  simp only [Array.length_toList] at hcl
  have hsz : (arr.toList.take cs.length ++ news ++ arr.toList.drop (cs.length + news.length)).toArray.size = arr.size := by simp; omega
  have htk : arr.toList.take cs.length = vs.toList := by
    rw [← harr, Array.toList_append, List.take_append_of_le_length (by simp; omega), List.take_of_length_le (by simp; omega)]
  have hn := h.lim st.n (Nat.le_refl _)
  have htn : t < st.n := h.top _ (hget_mem ht)
  refine ⟨arr, elem, fz, h2, h3, h4, ?_⟩
  intro g'
  have hl : g.le g' := by
    refine ⟨fun i b hi => ?_, fun i x hi => ?_, fun b o v hv => hv⟩
    · simp only [g']; split
      · rename_i he; subst he; rw [hn.1] at hi; cases hi
      · exact hi
    · simp only [g']; split
      · rename_i he; subst he; rw [hn.2] at hi; cases hi
      · exact hi
  have sub : ∀ i ob, hget (hdel st.H t) i = some ob → hget st.H i = some ob := fun i ob hi => h.sorted.sub_get (hdel_sub _ _) hi
  have nott : ∀ i ob, hget (hdel st.H t) i = some ob → i ≠ t := fun i ob hi he => by
    subst he
    have hm := hget_mem hi
    have : ∀ (H : List (Nat × Ob)), Sorted H → ∀ ob, (i, ob) ∉ hdel H i := by
      intro H
      induction H with
      | nil => intro _ ob hm; cases hm
      | cons p r ih =>
        intro hs ob hm
        obtain ⟨j, q⟩ := p
        have hs' := List.pairwise_cons.1 hs
        simp only [hdel] at hm
        split at hm
        · rename_i hj; simp at hj; subst hj
          have := hs'.1 _ hm; simp at this
        · rename_i hj; simp at hj
          cases hm with
          | head => exact hj rfl
          | tail _ hm => exact ih hs'.2 ob hm
    exact this _ h.sorted ob hm
  have getn : ∀ i ob, hget ((st.n, Ob.cells (cs ++ ycs)) :: hdel st.H t) i = some ob → (i = st.n ∧ ob = .cells (cs ++ ycs)) ∨ (i ≠ st.n ∧ i ≠ t ∧ hget st.H i = some ob) := fun i ob hi => by
    simp only [hget] at hi
    split at hi
    · rename_i he; simp at he; cases hi; exact .inl ⟨he.symm, rfl⟩
    · rename_i he; simp at he; exact .inr ⟨fun e => he e.symm, nott i ob hi, sub i ob hi⟩
  have other : ∀ i ob b, hget st.H i = some ob → i ≠ t → g.κ i = some b → b ≠ B := fun i ob b hi hit hb e => hit (h.excl i t ob _ B hi ht (e ▸ hb) hκ)
  refine ⟨hl, below_setRow h.below (h.old t _ B ht hκ) _, by simp; exact h.lim0, ?_, ?_, ?_, ?_, ?_, ?_, ?_, fun b o hlt => h.lo b o hlt⟩
  · intro b o v hv'
    by_cases hb : b = B
    · subst hb
      have hv'' : g.st b o = some v := hv'
      rw [h5] at hv''; cases hv''
    · rw [cell_setRow_other _ _ _ _ hb]
      exact h.stab b o v hv'
  · intro i ob b hi hb
    rcases getn i ob hi with ⟨rfl, rfl⟩ | ⟨hin, hit, hi'⟩
    · simp only [g', if_true] at hb
      cases hb
      refine ⟨(arr.toList.take cs.length ++ news).toArray, (arr.toList.drop (cs.length + news.length)).toArray, elem, fz, ?_, ?_, ?_, h5, ?_⟩
      · rw [List.append_toArray]
        exact setRow_heap w B arr _ elem fz h2
      · show VRs g' (cs ++ ycs) (arr.toList.take cs.length ++ news)
        rw [htk]
        exact (hvs.mono hl).append (hv.mono hl)
      · rw [List.append_toArray, hsz]; exact h4
      · intro e2 tot2 S2 he
        simp only [g', if_true] at he
        cases he
        rw [List.append_toArray, hsz]; exact h3
    · have hb' : g.κ i = some b := by simpa [g', hin] using hb
      have hne := other i ob b hi' hit hb'
      exact (h.obj i ob b hi' hb').keep hl (setRow_other w B b _ hne) (fun o ho => ho) (fun x hx => by simpa [g', hin] using hx)
  · intro i j oi oj b hi hj hbi hbj
    rcases getn i oi hi with ⟨rfl, rfl⟩ | ⟨hin, hit, hi'⟩ <;> rcases getn j oj hj with ⟨rfl, rfl⟩ | ⟨hjn, hjt, hj'⟩
    · rfl
    · simp only [g', if_true] at hbi; cases hbi
      have hb' : g.κ j = some B := by simpa [g', hjn] using hbj
      exact absurd rfl (other j oj B hj' hjt hb')
    · simp only [g', if_true] at hbj; cases hbj
      have hb' : g.κ i = some B := by simpa [g', hin] using hbi
      exact absurd rfl (other i oi B hi' hit hb')
    · exact h.excl i j oi oj b hi' hj' (by simpa [g', hin] using hbi) (by simpa [g', hjn] using hbj)
  · intro i ob b hi hb
    rcases getn i ob hi with ⟨rfl, rfl⟩ | ⟨hin, hit, hi'⟩
    · simp only [g', if_true] at hb; cases hb; exact h.old t _ B ht hκ
    · exact h.old i ob b hi' (by simpa [g', hin] using hb)
  · intro i hi
    simp only at hi
    have := h.lim i (by omega)
    simp only [g']
    rw [if_neg (by omega), if_neg (by omega)]
    exact this
  · exact List.pairwise_cons.2 ⟨fun p hp => h.top p ((hdel_sub _ _).subset hp), h.sorted.sub (hdel_sub _ _)⟩
  · intro p hp
    simp only at hp ⊢
    cases hp with
    | head => simp
    | tail _ hp => have := h.top p ((hdel_sub _ _).subset hp); omega

/-- There is no room: a new row that may be written. -/
theorem GR.app_growM (hG : GR g st w0 base w) {H' : List (Nat × Ob)} (hs : H'.Sublist st.H) {cs : List V} (vs : List Value) (hv : VRs g cs vs) (more : Array Value) (elem : TypeId) {tot s : Nat} (htot : tot ≤ vs.length + more.size) :
    let g' := (g.withκ st.n w.heap.size).withθ st.n (0, tot, s)
    g.le g' ∧ GR g' ⟨(st.n, .cells cs) :: H', st.n + 1⟩ w0 base (w.drew.alloc (.cells (vs.toArray ++ more) elem)) := by
  have h1 := (hG.drew.sub hs (n' := st.n) (Nat.le_refl _)).add (some (.cells cs))
  have hn := hG.lim st.n (Nat.le_refl _)
  have hl : g.le ((g.withκ st.n w.heap.size).withθ st.n (0, tot, s)) := (Ghost.le_withκ hn.1).trans (Ghost.le_withθ hn.2)
  refine ⟨hl, h1.alloc _ hl (fun _ _ _ => rfl) (fun x v hx => ?_) (fun j ob B k1 k2 => ?_) (fun j k k1 k2 k3 k4 => ?_) (fun j hj => ?_) (fun j ob B k1 k2 x hx => ?_)⟩
  · have := hG.st_lt hx
    have e : w.drew.heap.size = w.heap.size := rfl
    omega
  · simp only [Ghost.withκ, Ghost.withθ] at k2
    split at k2
    · rename_i e; subst e; cases k2
      have hob : ob = .cells cs := by simp [St.add, hget] at k1; exact k1.symm
      subst hob
      refine .inr ⟨rfl, hn.1, vs.toArray, more, elem, (0, 0), heap_new w.drew _, hv.mono hl, fun x _ hx => by simp at hx, fun o => hG.st_new (Nat.le_refl _) o, fun e tot' S he => ?_⟩
      simp only [Ghost.withθ, if_true] at he
      cases he
      simpa using htot
    · exact .inl k2
  · simp only [Ghost.withκ, Ghost.withθ] at k1 k2
    split at k1
    · split at k2
      · simp_all
      · have k2' : g.κ k = some w.heap.size := k2
        rw [k4] at k2'; cases k2'
    · have k1' : g.κ j = some w.heap.size := k1
      rw [k3] at k1'; cases k1'
  · simp only [St.add] at hj
    have := hG.lim j (by omega)
    simp only [Ghost.withκ, Ghost.withθ]
    rw [if_neg (by omega), if_neg (by omega)]
    exact this
  · have hji : j ≠ st.n := fun e => by subst e; rw [hn.1] at k2; cases k2
    simpa [Ghost.withθ, Ghost.withκ, hji] using hx

theorem appendM_sound (hG : GR g st w0 base w) {t tu : TypeId} (hu : (∃ e, C.P.underlying tu = some (.slice e)) ∨ C.P.underlying tu = some .string) {x y v : V} {st' : St} (h : appendM C st t x y = some (v, st')) {x' y' : Value} (hx : VR g x x') (hy : VR g y y') (hsl : ∃ a n cap, x' = .slice a n cap ∧ n ≤ cap) (ty : TypeId) :
    ∃ v' w' g', (Builtin.append_ #[t, tu] ty #[x', y']).run C.P w = .ok v' w' ∧ g.le g' ∧ VR g' v v' ∧ GR g' st' w0 base w' ∧ st.n ≤ st'.n ∧ (∀ i, i < st.n → g'.κ i = g.κ i ∧ g'.θ i = g.θ i) := by
  unfold appendM at h
  split at h
  · rename_i elem ht
    split at h
    · rename_i s hs
      split at h
      · rename_i k ycs hys
        obtain ⟨inf, hi, hsz⟩ := szOf_info hs
        subst hsz
        obtain ⟨news, hsrc, hnews⟩ := addedH_src (C := C) hG hu hys hy
        have hnl := hsrc.newsLen
        have hnews' : VRs g (ycs.map stripCell) news := hnews.strip
        split at h
        · rename_i hk0
          subst hk0
          cases h
          have hn0 : news = [] := by apply List.eq_nil_of_length_eq_zero; rw [hnl, Nat.zero_mul]
          subst hn0
          obtain ⟨a, n, cap, rfl, hnc⟩ := hsl
          refine ⟨.slice a n cap, w, g, ?_, Ghost.le.refl g, hx, hG, Nat.le_refl _, fun _ _ => ⟨rfl, rfl⟩⟩
          have hl := hsrc.len w
          have hc := hsrc.cells
          rcases hu with ⟨e', hk⟩ | hk <;> cases a <;> simp [Builtin.append_, run_underlying ht, run_underlying hk, sizeOf, typeInfo, hi, hl, hnc, hc, storeCells]
        · rename_i hk0
          have grow : ∀ (a : Option Addr) (len cap : Nat) (cs : List V) (vs : List Value), VRs g cs vs → vs.length = len * inf.size → (Builtin.firstCells inf.size len (.slice a len cap)).run C.P w.drew = .ok vs.toArray w.drew → len ≤ cap → cap < len + k →
              0 < inf.size → zeroOk C elem inf.size = true → (len + k) * byOf C elem ≤ 2 ^ 47 → len + k ≤ 2 ^ 47 → ∀ H' : List (Nat × Ob), H'.Sublist st.H →
              ∃ v' w' g', (Builtin.append_ #[t, tu] ty #[.slice a len cap, y']).run C.P w = .ok v' w' ∧ g.le g' ∧ VR g' (.msl st.n 0 (len + k) (ownC inf.size)) v' ∧ GR g' ⟨(st.n, .cells (cs ++ ycs.map stripCell)) :: H', st.n + 1⟩ w0 base w' ∧ st.n ≤ st.n + 1 ∧ (∀ i, i < st.n → g'.κ i = g.κ i ∧ g'.θ i = g.θ i) := by
            intro a len cap cs vs hvs hvl holds hlc hlt hs0 hz hby h46 H' hsub
            obtain ⟨inf', z, hi', hz1, hz2⟩ := zeroOk_spec hz
            rw [hi] at hi'; cases hi'
            have hb : byOf C elem = inf.bytes := by simp [byOf, hi]
            rw [hb] at hby
            have hrun := run_append_grow_src (P := C.P) w t tu ty elem inf z ht hi hz1 a len cap vs holds y' k news hsrc hlt (by omega) (growslice_fits hlt (by omega))
            have hge := grownCap_ge w (len + k) cap elem
            have hgr := hG.app_growM hsub (cs := cs ++ ycs.map stripCell) (vs ++ news) (hvs.append hnews') (Builtin.zeroCells z.cells (grownCap w (len + k) cap elem - (len + k))) elem (tot := grownCap w (len + k) cap elem * inf.size) (s := inf.size) (by
              rw [size_zeroCells, hz2, List.length_append, hvl, hnl, ← Nat.add_mul, ← Nat.add_mul]
              exact Nat.mul_le_mul_right _ (by omega))
            refine ⟨_, _, _, hrun, hgr.1, ?_, hgr.2, by omega, fun i hi => ⟨by simp [Ghost.withκ, Ghost.withθ, Nat.ne_of_lt hi], by simp [Ghost.withκ, Ghost.withθ, Nat.ne_of_lt hi]⟩⟩
            refine ⟨w.heap.size, by simp [Ghost.withκ, Ghost.withθ], _, rfl, hge, .inr (.inr ⟨inf.size, rfl, 0, ?_⟩)⟩
            simp [Ghost.withκ, Ghost.withθ]
          split at h
          · rename_i b off len cap
            split at h
            · rename_i cs hget
              split at h
              · rename_i hok
                obtain ⟨rfl, rfl, hcl, hs0, hz, hby, h46⟩ := hok
                cases h
                obtain ⟨B, hκ, cap', rfl, hlc, hcap⟩ := hx
                have hθ : ∃ e, g.θ b = some (e, cap' * inf.size, inf.size) := by
                  rcases hcap with e | e | ⟨S, e, e2, h⟩
                  · have e2 := e.2; unfold ownC unk at e2; omega
                  · unfold ownC unk at e; omega
                  · have : S = inf.size := by unfold ownC at e; omega
                    subst this
                    rw [Nat.zero_add] at h
                    exact ⟨e2, h⟩
                obtain ⟨e0, hθ⟩ := hθ
                obtain ⟨vs, h1, h2, _⟩ := hG.reads_obj hget hκ
                have hvl := h1.length
                by_cases hroom : len + k ≤ cap'
                · have hmul : len * inf.size + k * inf.size ≤ cap' * inf.size := by rw [← Nat.add_mul]; exact Nat.mul_le_mul_right _ hroom
                  obtain ⟨arr, el, fz, k1, k2, k3, k4, k5⟩ := hG.app_roomM hget hκ hθ hnews' (by omega)
                  have hrun := run_append_room_src (P := C.P) w t tu ty elem inf ht hi B 0 len cap' y' k news hsrc hroom (fun j hj => by
                    have : 0 + len * inf.size + j < arr.size := by omega
                    simp [World.cell?, k1, this]
                    omega) (fun j hj => by
                    simp only [World.frozen?, k1]
                    have := k3 (0 + len * inf.size + j) (by omega)
                    simp only [Bool.and_eq_false_iff, decide_eq_false_iff_not]
                    omega)
                  rw [setCells_eq_setRow B el fz news _ arr w k1 (by omega)] at hrun
                  simp only [Nat.zero_add] at hrun
                  rw [hcl] at k5
                  refine ⟨_, _, _, hrun, k4, ?_, k5, by simp, fun i hi => ⟨by simp [Nat.ne_of_lt hi], by simp [Nat.ne_of_lt hi]⟩⟩
                  refine ⟨B, by simp, _, rfl, hroom, .inr (.inr ⟨inf.size, rfl, e0, ?_⟩)⟩
                  simp
                · have hlt : cap' < len + k := by omega
                  exact grow (some ⟨B, 0, none⟩) len cap' cs vs h1 (by omega) (run_firstCells_some w.drew inf.size len ⟨B, 0, none⟩ _ _ vs (by omega) (fun j u hj => by rw [add_addr]; exact h2 j u hj)) hlc hlt hs0 hz hby h46 _ (hdel_sub _ _)
              · cases h
            · cases h
          · rename_i xs
            split at h
            · rename_i hok
              obtain ⟨hszk, hs0, hz, hby, h46⟩ := hok
              cases h
              obtain ⟨a, cap, vs, S, rfl, h2, h3, h4, h5⟩ := hx
              have h2' := h2.resize (s := inf.size) (fun hne => h2.size hszk hne)
              have hvl := h2'.length
              have holds : (Builtin.firstCells inf.size xs.length (.slice a xs.length cap)).run C.P w.drew = .ok vs.toArray w.drew := by
                by_cases hne : xs = []
                · subst hne
                  have : vs = [] := by simpa [VRe] using h2
                  subst this
                  cases a with
                  | none => rfl
                  | some a => simp [Builtin.firstCells, loadCells, loadCellsFrom]
                · obtain ⟨B, o, rfl, hrow⟩ := h5 hne
                  exact run_firstCells_some w.drew inf.size xs.length ⟨B, o, none⟩ _ _ vs hvl (fun j u hj => by rw [add_addr]; exact hG.reads hrow j u hj)
              simp only [TipR] at h3
              have := grow a xs.length cap ((flatE xs).map stripCell) vs (flatE_VRs h2').strip hvl holds h4 (by omega) hs0 hz hby h46 _ (List.Sublist.refl _)
              rw [← List.map_append] at this
              exact this
            · cases h
          · cases h
      · cases h
    · cases h
  · cases h

theorem appendV_sound (hG : GR g st w0 base w) {t tu : TypeId} (hu : (∃ e, C.P.underlying tu = some (.slice e)) ∨ C.P.underlying tu = some .string) {x y v : V} {st' : St} (h : appendV C st t x y = some (v, st')) {x' y' : Value} (hx : VR g x x') (hy : VR g y y') (ty : TypeId) :
    ∃ v' w' g', (Builtin.append_ #[t, tu] ty #[x', y']).run C.P w = .ok v' w' ∧ g.le g' ∧ VR g' v v' ∧ GR g' st' w0 base w' ∧ st.n ≤ st'.n ∧ (∀ i, i < st.n → g'.κ i = g.κ i ∧ g'.θ i = g.θ i) := by
  unfold appendV at h
  split at h
  · obtain ⟨B, hκ, cap', e, hlc, hcap⟩ := id hx
    exact appendM_sound hG hu h hx hy ⟨_, _, _, e, hlc⟩ ty
  · rename_i elem tip xs ht
    split at h
    · rename_i s hs
      split at h
      · rename_i ys hys
        obtain ⟨inf, hi, hsz⟩ := szOf_info hs
        subst hsz
        have hx0 := hx
        obtain ⟨news, hsrc, hnews⟩ := addedV_src (C := C) hG hu hys hy (fun _ => by
          unfold addedV at hys
          split at hys
          · exact .inr ⟨_, _, rfl⟩
          · split at hys
            · rename_i h1; exact .inl h1
            · cases hys
          · cases hys)
        obtain ⟨a, cap, vs, S, rfl, h2, h3, h4, h5⟩ := hx
        split at h
        · rename_i hemp
          cases h
          simp only [List.isEmpty_iff] at hemp
          subst hemp
          have hn0 : news = [] := by simpa [VRe] using hnews
          subst hn0
          refine ⟨.slice a xs.length cap, w, g, ?_, Ghost.le.refl g, ⟨a, cap, vs, S, rfl, h2, h3, h4, h5⟩, hG, Nat.le_refl _, fun _ _ => ⟨rfl, rfl⟩⟩
          have hl := hsrc.len w
          have hc := hsrc.cells
          simp only [List.length_nil] at hl hc
          rcases hu with ⟨e', hk⟩ | hk <;> cases a <;> simp [Builtin.append_, run_underlying ht, run_underlying hk, sizeOf, typeInfo, hi, hl, h4, hc, storeCells]
        · rename_i hemp
          split at h
          · rename_i hok
            obtain ⟨hs0, hszk, hz, hby, h46⟩ := hok
            obtain ⟨inf', z, hi', hz1, hz2⟩ := zeroOk_spec hz
            rw [hi] at hi'; cases hi'
            have hb : byOf C elem = inf.bytes := by simp [byOf, hi]
            rw [hb] at hby
            have hyl : 0 < ys.length := by
              rcases Nat.eq_zero_or_pos ys.length with h | h
              · exact absurd (by simpa using List.eq_nil_of_length_eq_zero h) hemp
              · exact h
            have h2' := h2.resize (s := inf.size) (fun hne => h2.size hszk hne)
            have hvl := h2'.length
            have hnl := hsrc.newsLen
            have holds : (Builtin.firstCells inf.size xs.length (.slice a xs.length cap)).run C.P w.drew = .ok vs.toArray w.drew := by
              by_cases hne : xs = []
              · subst hne
                have : vs = [] := by simpa [VRe] using h2
                subst this
                cases a with
                | none => rfl
                | some a => simp [Builtin.firstCells, loadCells, loadCellsFrom]
              · obtain ⟨B, o, rfl, hrow⟩ := h5 hne
                exact run_firstCells_some w.drew inf.size xs.length ⟨B, o, none⟩ _ _ vs hvl (fun j u hj => by rw [add_addr]; exact hG.reads hrow j u hj)
            have grow : cap < xs.length + ys.length → ∀ H' : List (Nat × Ob), H'.Sublist st.H → ∃ v' w' g', (Builtin.append_ #[t, tu] ty #[.slice a xs.length cap, y']).run C.P w = .ok v' w' ∧ g.le g' ∧
                VR g' (.sl (.own st.n) (xs ++ ys.map stripAgg)) v' ∧ GR g' ⟨(st.n, .tip inf.size) :: H', st.n + 1⟩ w0 base w' ∧ st.n ≤ st.n + 1 ∧ (∀ i, i < st.n → g'.κ i = g.κ i ∧ g'.θ i = g.θ i) := by
              intro hlt H' hsub
              have hrun := run_append_grow_src (P := C.P) w t tu ty elem inf z ht hi hz1 a xs.length cap vs holds y' ys.length news hsrc hlt (by omega) (growslice_fits hlt (by omega))
              have hge := grownCap_ge w (xs.length + ys.length) cap elem
              have hgr := hG.app_grow hsub (vs ++ news) (Builtin.zeroCells z.cells (grownCap w (xs.length + ys.length) cap elem - (xs.length + ys.length))) elem (tot := grownCap w (xs.length + ys.length) cap elem * inf.size) (s := inf.size) (by
                rw [size_zeroCells, hz2, List.length_append, hvl, hnl, ← Nat.add_mul, ← Nat.add_mul]
                exact Nat.mul_le_mul_right _ (by omega))
              refine ⟨_, _, _, hrun, hgr.1, ?_, hgr.2, by omega, fun i hi => ⟨by simp [Ghost.withRow, Ghost.withκ, Ghost.withθ, Nat.ne_of_lt hi], by simp [Ghost.withRow, Ghost.withκ, Ghost.withθ, Nat.ne_of_lt hi]⟩⟩
              have hlen : (xs ++ ys.map stripAgg).length = xs.length + ys.length := by simp
              refine ⟨some ⟨w.heap.size, 0, none⟩, grownCap w (xs.length + ys.length) cap elem, vs ++ news, inf.size, by rw [hlen], (h2'.append hnews.strip).mono hgr.1, ?_, by rw [hlen]; exact hge, fun _ => ⟨w.heap.size, 0, rfl, ?_⟩⟩
              · refine ⟨w.heap.size, 0, rfl, by simp [Ghost.withRow, Ghost.withκ, Ghost.withθ], ?_⟩
                simp only [Ghost.withθ, if_true, hlen, Nat.zero_add, List.length_append, hvl, hnl, Nat.add_mul]
              · intro i u hu'
                simp only [Ghost.withRow, Ghost.withκ, Ghost.withθ, Nat.zero_add, if_true]; exact hu'
            split at h
            · cases h
            · split at h
              · exact appendM_sound hG hu h hx0 hy ⟨_, _, _, rfl, h4⟩ ty
              · cases h
                simp only [TipR] at h3
                exact grow (by omega) _ (List.Sublist.refl _)
            · rename_i b
              split at h
              · rename_i s' hget
                split at h
                · rename_i hss
                  subst hss
                  cases h
                  obtain ⟨B, o, rfl, hκ, hθ⟩ := h3
                  by_cases hroom : xs.length + ys.length ≤ cap
                  · -- room
                    have hθ2 : S = inf.size := by
                      obtain ⟨e', tot', arr, el, fz, k1, _⟩ := hG.obj b _ B hget hκ
                      rw [hθ] at k1; cases k1; rfl
                    subst hθ2
                    obtain ⟨arr, el, fz, k1, k2, k3, k4, k5⟩ := hG.app_room hget hκ hθ (news := news) (by rw [hnl, Nat.add_assoc, ← Nat.add_mul]; exact Nat.add_le_add_left (Nat.mul_le_mul_right _ hroom) _)
                    have hfit : o + xs.length * inf.size + news.length ≤ arr.size := by
                      have : o + xs.length * inf.size + news.length ≤ o + cap * inf.size := by rw [hnl, Nat.add_assoc, ← Nat.add_mul]; exact Nat.add_le_add_left (Nat.mul_le_mul_right _ hroom) _
                      omega
                    have hrun := run_append_room_src (P := C.P) w t tu ty elem inf ht hi B o xs.length cap y' ys.length news hsrc hroom (fun j hj => by
                        have : o + xs.length * inf.size + j < arr.size := by omega
                        simp [World.cell?, k1, this]) (fun j hj => by
                        simp only [World.frozen?, k1]
                        have := k3 (o + xs.length * inf.size + j) (by omega)
                        simp only [Bool.and_eq_false_iff, decide_eq_false_iff_not]
                        omega)
                    rw [setCells_eq_setRow B el fz news _ arr w k1 hfit] at hrun
                    refine ⟨_, _, _, hrun, k4, ?_, k5, by simp, fun i hi => ⟨by simp [Nat.ne_of_lt hi], by simp [Nat.ne_of_lt hi]⟩⟩
                    have hlen : (xs ++ ys.map stripAgg).length = xs.length + ys.length := by simp
                    refine ⟨some ⟨B, o, none⟩, cap, vs ++ news, inf.size, by rw [hlen], (h2.append hnews.strip).mono k4, ?_, by rw [hlen]; exact hroom, fun _ => ⟨B, o, rfl, ?_⟩⟩
                    · refine ⟨B, o, rfl, by simp, ?_⟩
                      simp only [if_true, hlen, hnl, Nat.add_mul, Nat.add_assoc]
                    · intro i u hu'
                      rw [List.getElem?_append] at hu'
                      split at hu'
                      · rename_i hi2
                        have hne : xs ≠ [] := fun e => by subst e; simp at hvl; subst hvl; simp at hi2
                        obtain ⟨B', o', hB', hrow⟩ := h5 hne
                        cases hB'
                        exact k4.st _ _ _ (hrow i u hu')
                      · rename_i hi2
                        have hlt : i - vs.length < news.length := (List.getElem?_eq_some_iff.1 hu').1
                        simp only
                        rw [if_pos ⟨trivial, by omega, by omega⟩, show o + i - (o + xs.length * inf.size) = i - vs.length by omega]
                        exact hu'
                  · exact grow (by omega) _ (hdel_sub _ _)
                · cases h
              · cases h
          · cases h
      · cases h
    · cases h
  · cases h
end
end Go.Vm
/- Ranges over maps of at most one entry. -/
namespace Go.Vm
open Go Go.RowKit

section
variable {C : Cfg} {g : Ghost} {st : St} {w0 : W0} {base : Nat} {w : World}

theorem rangeV_sound (hG : GR g st w0 base w) {t : TypeId} {x v : V} {st' : St} (h : rangeV C st t x = some (v, st')) {x' : Value} (hx : VR g x x') :
    ∃ v' w' g', (Instr.range t x').run C.P w = .ok v' w' ∧ g.le g' ∧ (∀ i, i < st.n → g'.κ i = g.κ i ∧ g'.θ i = g.θ i) ∧ VR g' v v' ∧ GR g' st' w0 base w' := by
  have hn := hG.lim st.n (Nat.le_refl _)
  unfold rangeV at h
  split at h
  · rename_i key elem mb hu
    split at h
    · rename_i es hgm
      split at h
      · rename_i hl1
        cases h
        obtain ⟨B, hκ, rfl⟩ := hx
        obtain ⟨ob, es', ck, hob, hb, hes, hstm, hst⟩ := hG.map_obj hgm hκ
        have hl : es'.toList.length ≤ 1 := by rw [← hes.length]; exact hl1
        obtain ⟨b, hbb⟩ : ∃ b, ∀ e ∈ es'.toList, e.born = b := by
          match hL : es'.toList with
          | [] => exact ⟨0, fun e he => by cases he⟩
          | [e0] => exact ⟨e0.born, fun e he => by simp at he; rw [he]⟩
          | e0 :: e1 :: r => rw [hL] at hl; simp at hl
        have h2 := hG.add (some (.iter1 mb false))
        have hne : mb ≠ st.n := fun e => by subst e; rw [hn.1] at hκ; cases hκ
        obtain ⟨m1, m2⟩ := h2.mat2 (i := st.n) (ob := .iter1 mb false) (by simp [St.add, hget]) hn.1 hn.2 (by simp [St.add]) (b, ck, 0) (.mapIter (some B) ck #[] ck)
          ⟨B, b, ck, by simp only [Ghost.withκ, Ghost.withθ, hne, if_false]; exact hκ, by simp [Ghost.withθ], heap_new w _, fun o => hG.st_new (Nat.le_refl _) o⟩
        have hob' : hget (st.add (some (.iter1 mb false))).H mb = some ob := by
          simp only [St.add, hget, show (st.n == mb) = false by simp; omega, Bool.false_eq_true, if_false]
          exact hob
        have m3 := m1.reob (ob' := .pin1 es st.n) hob' fun B' hκ' _ => by
          have hκ2 : g.κ mb = some B' := by simpa [Ghost.withκ, Ghost.withθ, hne] using hκ'
          rw [hκ] at hκ2; cases hκ2
          refine ⟨es', ck, (heap_old w _ (Array.getElem?_eq_some_iff.1 hb).1).trans hb, hes.mono m2, hstm, hst, hl1, b, by simp [Ghost.withθ], hbb⟩
        have hH : hset (st.add (some (.iter1 mb false))).H mb (.pin1 es st.n) = (st.n, .iter1 mb false) :: hset st.H mb (.pin1 es st.n) := by
          simp only [St.add, hset, show (st.n == mb) = false by simp; omega, Bool.false_eq_true, if_false]
        rw [hH] at m3
        refine ⟨_, _, _, run_range_map w t key elem B es' ck hu hb, m2, fun i hi => ?_, ⟨w.heap.size, by simp [Ghost.withκ, Ghost.withθ], rfl⟩, m3⟩
        simp only [Ghost.withκ, Ghost.withθ]
        rw [if_neg (by omega), if_neg (by omega)]
        exact ⟨rfl, rfl⟩
      · cases h
    · cases h
  · rename_i key elem hu
    cases h
    simp only [VR] at hx; subst hx
    have h2 := hG.add (some .iter0)
    obtain ⟨m1, m2⟩ := h2.mat2 (i := st.n) (ob := .iter0) (by simp [St.add, hget]) hn.1 hn.2 (by simp [St.add]) (0, 0, 0) (.mapIter none 0 #[] 0) ⟨heap_new w _, fun o => hG.st_new (Nat.le_refl _) o⟩
    refine ⟨_, _, _, run_range_nilMap w t key elem hu, m2, fun i hi => ?_, ⟨w.heap.size, by simp [Ghost.withκ, Ghost.withθ], rfl⟩, m1⟩
    simp only [Ghost.withκ, Ghost.withθ]
    rw [if_neg (by omega), if_neg (by omega)]
    exact ⟨rfl, rfl⟩
  · cases h

theorem leftOf_nil {es : Array MapEntry} {b : Nat} (h : ∀ e ∈ es.toList, e.born = b) : (leftOf es #[b]).size = 0 := by
  unfold leftOf
  rw [Array.size_eq_zero_iff, Array.filter_eq_empty_iff]
  intro e he
  have := h e (by simpa using he)
  simp [this]

theorem nextV_sound (hG : GR g st w0 base w) {it v : V} {st' : St} (h : nextV st it = some (v, st')) {it' : Value} (hx : VR g it it') (ty : TypeId) :
    ∃ v' w', (Instr.next it' false ty).run C.P w = .ok v' w' ∧ VR g v v' ∧ GR g st' w0 base w' := by
  unfold nextV at h
  split at h
  · rename_i ib
    obtain ⟨Bi, hκi, rfl⟩ := hx
    split at h
    · rename_i hib
      cases h
      obtain ⟨hbi, _⟩ := hG.obj ib _ Bi hib hκi
      refine ⟨.tuple #[.bool false], w, ?_, ⟨#[.bool false], rfl, _, _, rfl, rfl, rfl⟩, hG⟩
      simp only [Instr.next, getObj, Sem.run_bind, Sem.run, hbi, Result.andThen]
      rfl
    · rename_i mb done hib
      split at h
      · rename_i es jb hmb
        split at h
        · rename_i hj
          subst hj
          obtain ⟨B, b, ck, hκ, hθ, hbi, hsti⟩ := hG.obj jb _ Bi hib hκi
          obtain ⟨es', ck2, hb, hes, hstm, hst, hl1, b2, hθ2, hbb⟩ := hG.obj mb _ B hmb hκ
          rw [hθ] at hθ2; cases hθ2
          have over : (done = true ∨ es = []) → ∃ v' w', (Instr.next (.pointer (some ⟨Bi, 0, none⟩)) false ty).run C.P w = .ok v' w' ∧ VR g (.tup [.bool false]) v' ∧ GR g ⟨hset st.H mb (.map es), st.n⟩ w0 base w' := by
            intro hor
            have hz : (leftOf es' (if done then #[b] else #[])).size = 0 := by
              rcases hor with rfl | rfl
              · exact leftOf_nil hbb
              · have hlen := hes.length
                have : es' = #[] := by apply Array.toList_inj.1; exact List.eq_nil_of_length_eq_zero hlen.symm
                subst this
                rfl
            have hG' := hG.reob (ob' := .map es) hmb fun B' hκ' _ => by
              rw [hκ] at hκ'; cases hκ'
              exact ⟨es', ck, hb, hes, hstm, hst⟩
            refine ⟨.tuple #[.bool false], w, ?_, ⟨#[.bool false], rfl, _, _, rfl, rfl, rfl⟩, hG'⟩
            rcases run_next_at (P := C.P) w ty Bi B ck ck (if done then #[b] else #[]) es' ck hbi hb hstm.2 (Nat.le_refl _) with ⟨_, hrun⟩ | ⟨e, he, _⟩
            · exact hrun
            · have := Array.eq_empty_of_size_eq_zero hz
              rw [this] at he; simp at he
          split at h
          · rename_i e0
            cases h
            rcases run_next_at (P := C.P) w ty Bi B ck ck #[] es' ck (by simpa using hbi) hb hstm.2 (Nat.le_refl _) with ⟨hz, _⟩ | ⟨e, he, w1, hw1, hrun⟩
            · exfalso
              have h1 := Array.eq_empty_of_size_eq_zero hz
              have hlen := hes.length
              have : es'.toList ≠ [] := fun e => by rw [e] at hlen; simp at hlen
              obtain ⟨e1, r, he1⟩ := List.exists_cons_of_ne_nil this
              have hm : e1 ∈ leftOf es' #[] := by
                unfold leftOf
                rw [Array.mem_filter]
                exact ⟨by rw [← Array.mem_toList_iff, he1]; exact List.mem_cons_self, by simp⟩
              rw [h1] at hm; simp at hm
            · have hem : e ∈ es'.toList := by
                unfold leftOf at he
                have := Array.mem_filter.1 (Array.mem_toList_iff.1 he)
                simpa using this.1
              obtain ⟨i, p, hi1, hi2, hk, hv⟩ := hes.get2 hem
              have hp : p = e0 := by
                cases i with
                | zero => simpa using hi2.symm
                | succ i => simp at hi2
              subst hp
              have hborn := hbb e hem
              have hG1 : GR g st w0 base w1 := by
                rcases hw1 with rfl | rfl
                · exact hG
                · exact hG.drew
              have hbi1 : w1.heap[Bi]? = some (.mapIter (some B) ck #[] ck) := by
                have hbi' : w.heap[Bi]? = some (.mapIter (some B) ck #[] ck) := by simpa using hbi
                rcases hw1 with rfl | rfl
                · exact hbi'
                · exact hbi'
              refine ⟨_, _, hrun, ⟨#[.bool true, e.key, e.val], rfl, _, _, rfl, rfl, _, _, rfl, hk, _, _, rfl, hv, rfl⟩, ?_⟩
              refine hG1.set_obj hib hκi hsti _ ⟨B, b, ck, hκ, hθ, ?_, hsti⟩
              rw [heap_setObj]
              simp [hbi1, hborn]
          · rename_i hne
            cases h
            refine over ?_
            cases done with
            | true => exact .inl rfl
            | false =>
              refine .inr ?_
              match es, hl1, hne with
              | [], _, _ => rfl
              | [e], _, hne => exact (hne e rfl rfl).elim
        · cases h
      · cases h
    · cases h
  · cases h

theorem entryV_sound (hG : GR g st w0 base w) {it v : V} {st' : St} (h : entryV st it = some (v, st')) {it' : Value} (hx : VR g it it') :
    st' = st ∧ ∃ v', (Instr.entry it').run C.P w = .ok v' w ∧ VR g v v' := by
  unfold entryV at h
  split at h
  · rename_i ib
    obtain ⟨Bi, hκi, rfl⟩ := hx
    split at h
    · rename_i mb hib
      split at h
      · rename_i e0 jb hmb
        split at h
        · rename_i hj
          subst hj
          cases h
          refine ⟨rfl, ?_⟩
          obtain ⟨B, b, ck, hκ, hθ, hbi, hsti⟩ := hG.obj jb _ Bi hib hκi
          obtain ⟨es', ck2, hb, hes, hstm, hst, hl1, b2, hθ2, hbb⟩ := hG.obj mb _ B hmb hκ
          rw [hθ] at hθ2; cases hθ2
          obtain ⟨e', he', hk, hv⟩ := hes.get (j := 0) (p := e0) rfl
          have hem : e' ∈ es'.toList := List.mem_of_getElem? he'
          have hnd : (es'.toList.map (·.born)).Nodup := (Stamped.iff.1 hstm).1.imp fun h => Nat.ne_of_lt h
          have hrun := run_entry_at (P := C.P) w Bi B ck #[] es' ck e' (by rw [hbb e' hem]; simpa using hbi) hb hem hnd
          exact ⟨_, hrun, ⟨#[e'.key, e'.val], rfl, _, _, rfl, hk, _, _, rfl, hv, rfl⟩⟩
        · cases h
      · cases h
    · cases h
  · cases h

theorem rangeV_n {t : TypeId} {x v : V} {st' : St} (h : rangeV C st t x = some (v, st')) : st.n ≤ st'.n := by
  unfold rangeV at h
  split at h
  · split at h
    · split at h
      · cases h; simp
      · cases h
    · cases h
  · cases h; simp
  · cases h
theorem nextV_n {it v : V} {st' : St} (h : nextV st it = some (v, st')) : st.n ≤ st'.n := by
  unfold nextV at h
  split at h
  · split at h
    · cases h; exact Nat.le_refl _
    · split at h
      · split at h
        · split at h <;> cases h <;> exact Nat.le_refl _
        · cases h
      · cases h
    · cases h
  · cases h
theorem entryV_st {it v : V} {st' : St} (h : entryV st it = some (v, st')) : st' = st := by
  unfold entryV at h
  split at h
  · split at h
    · split at h
      · split at h
        · cases h; rfl
        · cases h
      · cases h
    · cases h
  · cases h
end
end Go.Vm
