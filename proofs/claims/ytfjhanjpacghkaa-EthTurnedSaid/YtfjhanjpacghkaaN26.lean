/- Ranges over maps: whatever the order. -/
import Derived.Test.YtfjhanjpacghkaaN25
import Derived.Maps.RangeRun
set_option linter.unusedSimpArgs false
set_option linter.unusedVariables false
namespace Go.Vm
open Go Go.RowKit

section
variable {C : Cfg} {ops : Array Oper} {f : Fr} {st : St} {Q : Fr → St → Prop} {dst : Option Tmp} {type : TypeId} {pos : String} {after : Array Edge} {rest : List Oper}

/-- A range over a map begins. -/
theorem EvOps.range {t key elem : TypeId} {x : Operand} {mb : Nat} {es : List (V × V)} (hu : C.P.underlying t = some (.map key elem)) (hx : evalO C f x = .map mb) (hm : hget st.H mb = some (.map es))
    (h : ∀ (bs : List Nat) (ck : Nat), bs.length = es.length → bs.Nodup → EvOps C ops rest (f.put dst (.ptr st.n 0)) ⟨(st.n, .iter mb ck []) :: hset st.H mb (.pin es bs ck), st.n + 1⟩ Q) :
    EvOps C ops ({ dst := dst, op := .range t x, type := type, pos := pos, after := after, guard := none } :: rest) f st Q :=
  EvOps.go rfl fun hC hP hX w0 base g w a hG hgl hf hd Kc Qx hKc => by
    have hρ := hf.eval (C := C) hgl
    have hxr := hρ x
    rw [hx] at hxr
    obtain ⟨B, hκ, hxe⟩ := hxr
    obtain ⟨es', ck, hb, hes, hstm, hst⟩ := hG.obj mb _ B hm hκ
    have hlen : (es'.toList.map (·.born)).length = es.length := by rw [List.length_map, hes.length]
    have hnd : (es'.toList.map (·.born)).Nodup := by
      have := (Stamped.iff.1 hstm).1
      exact this.imp fun h => Nat.ne_of_lt h
    have h1 := hG.reob (ob' := .pin es (es'.toList.map (·.born)) ck) hm fun B' hκ' _ => by
      rw [hκ] at hκ'; cases hκ'
      exact ⟨es', hb, hes, rfl, hstm, hst⟩
    have h2 := h1.add (some (.iter mb ck []))
    have hn := hG.lim st.n (Nat.le_refl _)
    obtain ⟨m1, m2⟩ := h2.mat (i := st.n) (ob := .iter mb ck []) (by simp [St.add, hget]) hn.1 (by simp [St.add]) (.mapIter (some B) ck #[] ck)
      ⟨B, by simp only [Ghost.withκ]; split; (rename_i e; rw [← e, hκ] at hn; cases hn.1); exact hκ, heap_new w _, fun o => hG.st_new (Nat.le_refl _) o⟩
    unfold Oper.wp
    have hrun : (execOp a.eval { dst := dst, op := .range t x, type := type, pos := pos, after := after, guard := none }).run C.P w = .ok (.value (.pointer (some ⟨w.heap.size, 0, none⟩))) (w.alloc (.mapIter (some B) ck #[] ck)) := by
      simp only [execOp, hxe, Sem.run_bind, run_range_map w t key elem B es' ck hu hb, Result.andThen_ok, Sem.run_pure]
    rw [hrun, Oper.upon_value]
    refine hKc _ _ _ _ _ (h _ ck hlen hnd) (Nat.le_succ _) ⟨m2, fun i hi => ?_⟩ ((hf.mono m2).put hd ?_) m1 (size_put _ _ _)
    · simp only [Ghost.withκ]
      rw [if_neg (by omega)]
      exact ⟨rfl, trivial⟩
    · exact ⟨w.heap.size, by simp [Ghost.withκ], rfl⟩

/-- The next entry. -/
theorem EvOps.next {it : Operand} {ib mb ck : Nat} {seen bs : List Nat} {es : List (V × V)} (hit : evalO C f it = .ptr ib 0) (hib : hget st.H ib = some (.iter mb ck seen)) (hmb : hget st.H mb = some (.pin es bs ck))
    (h1 : ∀ (i b : Nat) (e : V × V), bs[i]? = some b → es[i]? = some e → b ∉ seen → EvOps C ops rest (f.put dst (.tup [.bool true, e.1, e.2])) { st with H := hset st.H ib (.iter mb ck (seen ++ [b])) } Q)
    (h0 : (∀ b ∈ bs, b ∈ seen) → EvOps C ops rest (f.put dst (.tup [.bool false])) st Q) :
    EvOps C ops ({ dst := dst, op := .next it false, type := type, pos := pos, after := after, guard := none } :: rest) f st Q :=
  EvOps.go rfl fun hC hP hX w0 base g w a hG hgl hf hd Kc Qx hKc => by
    have hρ := hf.eval (C := C) hgl
    have hxr := hρ it
    rw [hit] at hxr
    obtain ⟨Bi, hκi, hxe⟩ := hxr
    obtain ⟨B, hκ, hbi, hsti⟩ := hG.obj ib _ Bi hib hκi
    obtain ⟨es', hb, hes, hbs, hstm, hst⟩ := hG.obj mb _ B hmb hκ
    have hmem : ∀ b : Nat, (seen.toArray.contains b = true) ↔ b ∈ seen := fun b => by simp
    unfold Oper.wp
    rcases run_next_at (P := C.P) w type Bi B ck ck seen.toArray es' ck hbi hb hstm.2 (Nat.le_refl _) with ⟨hz, hrun⟩ | ⟨e, he, w1, hw1, hrun⟩
    · have hrun' : (execOp a.eval { dst := dst, op := .next it false, type := type, pos := pos, after := after, guard := none }).run C.P w = .ok (.value (.tuple #[.bool false])) w := by
        simp only [execOp, hxe, Sem.run_bind, hrun, Result.andThen_ok, Sem.run_pure]
      rw [hrun', Oper.upon_value]
      refine hKc _ _ g _ _ (h0 fun b hb' => ?_) (Nat.le_refl _) (Ext.refl _ _) (hf.put hd ⟨#[.bool false], rfl, _, _, rfl, rfl, rfl⟩) hG (size_put _ _ _)
      rw [← hbs] at hb'
      obtain ⟨e, he, rfl⟩ := List.mem_map.1 hb'
      have hl : leftOf es' seen.toArray = #[] := Array.eq_empty_of_size_eq_zero hz
      refine Classical.byContradiction fun hns => ?_
      have : e ∈ leftOf es' seen.toArray := by
        unfold leftOf
        rw [Array.mem_filter]
        refine ⟨by simpa using he, ?_⟩
        simp only [Bool.not_eq_true']
        cases hc : seen.toArray.contains e.born with
        | false => rfl
        | true => exact absurd ((hmem _).1 hc) hns
      rw [hl] at this
      simp at this
    · have hrun' : (execOp a.eval { dst := dst, op := .next it false, type := type, pos := pos, after := after, guard := none }).run C.P w = .ok (.value (.tuple #[.bool true, e.key, e.val])) (Go.ChangeMaps.setBlock w1 Bi (.mapIter (some B) ck (seen.toArray.push e.born) ck)) := by
        simp only [execOp, hxe, Sem.run_bind, hrun, Result.andThen_ok, Sem.run_pure]
      rw [hrun', Oper.upon_value]
      have hem : e ∈ es'.toList ∧ e.born ∉ seen := by
        unfold leftOf at he
        have := Array.mem_filter.1 (Array.mem_toList_iff.1 he)
        refine ⟨by simpa using this.1, fun hs => ?_⟩
        have h2 := this.2
        rw [(hmem _).2 hs] at h2
        cases h2
      obtain ⟨i, p, hi1, hi2, hk, hv⟩ := hes.get2 hem.1
      have hG1 : GR g st w0 base w1 := by
        rcases hw1 with rfl | rfl
        · exact hG
        · exact hG.drew
      have hbi1 : w1.heap[Bi]? = some (.mapIter (some B) ck seen.toArray ck) := by rcases hw1 with rfl | rfl <;> exact hbi
      refine hKc _ _ g _ _ (h1 i e.born p (by rw [← hbs, List.getElem?_map, hi1]; rfl) hi2 hem.2) (Nat.le_refl _) (Ext.refl _ _) (hf.put hd ⟨#[.bool true, e.key, e.val], rfl, _, _, rfl, rfl, _, _, rfl, hk, _, _, rfl, hv, rfl⟩) ?_ (size_put _ _ _)
      exact hG1.set_obj hib hκi hsti _ ⟨B, hκ, by rw [heap_setObj]; simp [hbi1], hsti⟩

/-- The entry that came last. -/
theorem EvOps.entry {it : Operand} {ib mb ck i b : Nat} {seen bs : List Nat} {es : List (V × V)} {e : V × V} (hit : evalO C f it = .ptr ib 0) (hib : hget st.H ib = some (.iter mb ck (seen ++ [b]))) (hmb : hget st.H mb = some (.pin es bs ck))
    (hb : bs[i]? = some b) (he : es[i]? = some e) (h : EvOps C ops rest (f.put dst (.tup [e.1, e.2])) st Q) :
    EvOps C ops ({ dst := dst, op := .entry it, type := type, pos := pos, after := after, guard := none } :: rest) f st Q :=
  EvOps.go rfl fun hC hP hX w0 base g w a hG hgl hf hd Kc Qx hKc => by
    have hρ := hf.eval (C := C) hgl
    have hxr := hρ it
    rw [hit] at hxr
    obtain ⟨Bi, hκi, hxe⟩ := hxr
    obtain ⟨B, hκ, hbi, hsti⟩ := hG.obj ib _ Bi hib hκi
    obtain ⟨es', hbm, hes, hbs, hstm, hst⟩ := hG.obj mb _ B hmb hκ
    obtain ⟨e', he', hk, hv⟩ := hes.get he
    have hbe : e'.born = b := by
      rw [← hbs, List.getElem?_map, he'] at hb
      simpa using hb
    have hnd : (es'.toList.map (·.born)).Nodup := (Stamped.iff.1 hstm).1.imp fun h => Nat.ne_of_lt h
    have hrun := run_entry_at (P := C.P) w Bi B ck seen.toArray es' ck e' (by rw [hbe]; simpa using hbi) hbm (List.mem_of_getElem? he') hnd
    unfold Oper.wp
    have hrun' : (execOp a.eval { dst := dst, op := .entry it, type := type, pos := pos, after := after, guard := none }).run C.P w = .ok (.value (.tuple #[e'.key, e'.val])) w := by
      simp only [execOp, hxe, Sem.run_bind, hrun, Result.andThen_ok, Sem.run_pure]
    rw [hrun', Oper.upon_value]
    exact hKc _ _ g _ _ h (Nat.le_refl _) (Ext.refl _ _) (hf.put hd ⟨#[e'.key, e'.val], rfl, _, _, rfl, hk, _, _, rfl, hv, rfl⟩) hG (size_put _ _ _)
end

section
variable {C : Cfg} {ops : Array Oper} {f : Fr} {st : St} {Q : Fr → St → Prop} {dst : Option Tmp} {type : TypeId} {pos : String} {after : Array Edge} {rest : List Oper}
/-- A slice of which nothing is known, held against nil. -/
theorem EvOps.nilSl {op : BinOp} {t e yt : TypeId} {x y : Operand} {tip : Tip} {xs : List V} (hy : isNilSl y = true) (hu : C.P.underlying t = some (.slice e)) (ho : op = .eql ∨ op = .neq) (hx : evalO C f x = .sl tip xs)
    (h : ∀ b, EvOps C ops rest (f.put dst (.bool b)) st Q) : EvOps C ops ({ dst := dst, op := .binOp op t x y yt, type := type, pos := pos, after := after, guard := none } :: rest) f st Q :=
  EvOps.go rfl fun hC hP hX w0 base g w a hG hgl hf hd Kc Qx hKc => by
    have hxr := hf.eval (C := C) hgl x
    rw [hx] at hxr
    obtain ⟨ad, cap, vs, S, hxe, _⟩ := hxr
    unfold Oper.wp
    have hrun : (execOp a.eval { dst := dst, op := .binOp op t x y yt, type := type, pos := pos, after := after, guard := none }).run C.P w = .ok (.value (.bool (if op = .eql then ad.isNone else !ad.isNone))) w := by
      simp only [execOp]
      rw [Sem.run_bind, isNilSl_eval hy a, hxe, run_nilSl (C := C) ho hu]
      rfl
    rw [hrun, Oper.upon_value]
    exact hKc _ _ g _ _ (h _) (Nat.le_refl _) (Ext.refl _ _) (hf.put hd rfl) hG (size_put _ _ _)
end

section
variable {C : Cfg} {c : Code} {f : Fr} {st : St} {Q : Ex → Fr → St → Prop}
/-- A map that is ranged over is a map. -/
theorem Ev.unpin {mb ck : Nat} {es : List (V × V)} {bs : List Nat} (hm : hget st.H mb = some (.pin es bs ck)) (h : Ev C c f { st with H := hset st.H mb (.map es) } Q) : Ev C c f st Q :=
  ⟨fun hC hP hX N w0 base g w a hc hG hgl hf hN => h.ex hC hP hX hc (hG.reob hm fun B _ ⟨es', h1, h2, h3, h4, h5⟩ => ⟨es', ck, h1, h2, h4, h5⟩) hgl hf hN⟩
/-- Names may be forgotten. -/
theorem Ev.forget {H : List (Nat × Ob)} (hs : H.Sublist st.H) (h : Ev C c f ⟨H, st.n⟩ Q) : Ev C c f st Q :=
  ⟨fun hC hP hX N w0 base g w a hc hG hgl hf hN => h.ex hC hP hX hc (hG.sub hs (Nat.le_refl _)) hgl hf hN⟩
end
end Go.Vm
