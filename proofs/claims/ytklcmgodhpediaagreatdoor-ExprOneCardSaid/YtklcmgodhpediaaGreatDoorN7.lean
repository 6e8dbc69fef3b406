/- What an operation yields by the evaluator, it yields in the model: all that leave memory alone, and those that make memory. -/
import Derived.Test.YtklcmgodhpediaaGreatDoorN6
import Derived.Deep.AppendSrc
set_option linter.unusedSimpArgs false
set_option linter.unusedVariables false
namespace Go.Vm
open Go Go.RowKit

section
variable {C : Cfg} {g : Ghost} {w : World} {st : St} {w0 : W0} {base : Nat}

theorem OptR.map {ρ : Operand → V} {ρ' : Operand → Value} (h : ∀ x, VR g (ρ x) (ρ' x)) (o : Option Operand) : OptR g (o.map ρ) (o.map ρ') := by
  cases o with
  | none => exact .none
  | some x => exact .some (h x)

theorem VRl.map {ρ : Operand → V} {ρ' : Operand → Value} (h : ∀ x, VR g (ρ x) (ρ' x)) : ∀ l : List Operand, VRl g (l.map ρ) (l.map ρ')
  | [] => rfl
  | x :: l => ⟨_, _, rfl, h x, VRl.map h l⟩

theorem VRl.append : ∀ {as bs : List V} {us vs : List Value}, VRl g as us → VRl g bs vs → VRl g (as ++ bs) (us ++ vs)
  | [], _, us, _, h, k => by simp only [VRl] at h; subst h; exact k
  | a :: as, _, us, _, h, k => by
    simp only [VRl] at h; obtain ⟨u, us', rfl, h2, h⟩ := h
    simp only [List.cons_append, VRl]; exact ⟨u, _, rfl, h2, VRl.append h k⟩

/-- Operations that leave memory alone. -/
theorem rd_sound (hC : COk C) (hG : GR g st w0 base w) {ρ : Operand → V} {ρ' : Operand → Value} (hρ : ∀ x, VR g (ρ x) (ρ' x)) (o : Oper) {v : V} (h : rdOp C st.H ρ o.op = some v) :
    ∃ v', (execOp ρ' o).run C.P w = .ok (.value v') w ∧ VR g v v' := by
  obtain ⟨dst, op, type, pos, after, guard⟩ := o
  simp only at h
  cases op <;> simp only [rdOp, reduceCtorEq] at h
  case move x => cases h; exact ⟨_, rfl, hρ x⟩
  case assign x => cases h; exact ⟨_, rfl, hρ x⟩
  case pick c a b =>
    have hc := hρ c
    cases hcv : ρ c <;> rw [hcv] at h hc <;> simp only [reduceCtorEq, Option.some.injEq] at h
    rename_i t
    simp only [VR] at hc
    subst h
    refine ⟨if t then ρ' a else ρ' b, ?_, ?_⟩
    · simp only [execOp, hc, asBool, Sem.run_bind, Sem.run_pure, Result.andThen_ok]
    · cases t
      · exact hρ b
      · exact hρ a
  case build t parts =>
    have hp : PartsR g (parts.toList.map fun (i, x) => (i, ρ x)) (parts.map fun (i, x) => (i, ρ' x)).toList := by rw [Array.toList_map]; exact PartsR.of hρ parts.toList
    obtain ⟨v', h1, h2⟩ := buildV_sound h hp w
    exact ⟨v', by simp only [execOp, Sem.run_bind, h1, Result.andThen_ok, Sem.run_pure], h2⟩
  case load t a =>
    obtain ⟨v', h1, h2⟩ := loadV_sound hG h (hρ a)
    exact ⟨v', by simp only [execOp, Sem.run_bind, h1, Result.andThen_ok, Sem.run_pure], h2⟩
  case nilCheck x =>
    have hx := hρ x
    cases hxv : ρ x <;> rw [hxv] at h hx <;> (first | (cases h; done) | skip)
    case ptr b off => obtain ⟨B, h1, h2⟩ := hx; cases h; exact ⟨_, by simp only [execOp, h2]; rfl, B, h1, rfl⟩
    case cptr cs => obtain ⟨B, o, vs, h2, r⟩ := hx; cases h; exact ⟨_, by simp only [execOp, h2]; rfl, B, o, vs, rfl, r⟩
    case func fn fi ca =>
      obtain ⟨fi', ca', h2, r⟩ := hx
      cases fn <;> (first | (cases h; done) | skip)
      cases h; exact ⟨_, by simp only [execOp, h2]; rfl, fi', ca', rfl, r⟩
    case iface t y => obtain ⟨x', h2, r⟩ := hx; cases h; exact ⟨_, by simp only [execOp, h2]; rfl, x', rfl, r⟩
  case binOp op t x y yt =>
    obtain ⟨v', h1, h2⟩ := binV_sound hC h (hρ x) (hρ y) (ox := x) (oy := y) rfl w
    exact ⟨v', by simp only [execOp]; rw [Sem.run_bind, h1]; rfl, h2⟩
  case unOp op t x =>
    obtain ⟨v', h1, h2⟩ := run_unV (C := C) h (hρ x) w
    exact ⟨v', by simp only [execOp, Sem.run_bind, h1, Result.andThen_ok, Sem.run_pure], h2⟩
  case convert s d x =>
    obtain ⟨v', h1, h2⟩ := convV_sound hG h (hρ x)
    exact ⟨v', by simp only [execOp, Sem.run_bind, h1, Result.andThen_ok, Sem.run_pure], h2⟩
  case makeInterface t x =>
    unfold makeIfaceV at h
    split at h
    · cases h
    · rename_i d hd hu
      cases h
      refine ⟨.iface t (ρ' x), ?_, _, rfl, hρ x⟩
      have : (Instr.makeInterface t (ρ' x)).run C.P w = .ok (.iface t (ρ' x)) w := by
        simp only [Instr.makeInterface, Sem.run_bind, run_underlying hu, Result.andThen_ok]
        cases d <;> first | rfl | exact absurd rfl (hd _)
      simp only [execOp, Sem.run_bind, this, Result.andThen_ok, Sem.run_pure]
    · cases h
  case makeFunc fn first captured =>
    cases h
    refine ⟨.func fn (first.map ρ') (captured.map ρ'), by simp only [execOp, Instr.makeFunc, Sem.run_bind, Sem.run_pure, Result.andThen_ok], _, _, rfl, ?_, ?_⟩
    · rw [Array.toList_map]; exact VRl.map hρ _
    · rw [Array.toList_map]; exact VRl.map hρ _
  case slice t x lo hi mx =>
    cases mx with
    | some m =>
      cases hi with
      | none => cases h
      | some hi =>
        obtain ⟨v', h1, h2⟩ := slice3V_sound h (hρ x) (OptR.map hρ lo) (hρ hi) (hρ m) w
        exact ⟨v', by simp only [execOp, Sem.run_bind, Option.map_some, h1, Result.andThen_ok, Sem.run_pure], h2⟩
    | none =>
      obtain ⟨v', h1, h2⟩ := sliceV_sound h (hρ x) (OptR.map hρ lo) (OptR.map hρ hi) w
      exact ⟨v', by simp only [execOp, Sem.run_bind, Option.map_none, h1, Result.andThen_ok, Sem.run_pure], h2⟩
  case fieldAddr t x i =>
    obtain ⟨v', h1, h2⟩ := fieldAddrV_sound h (hρ x) w
    exact ⟨v', by simp only [execOp, Sem.run_bind, h1, Result.andThen_ok, Sem.run_pure], h2⟩
  case field t x i =>
    obtain ⟨v', h1, h2⟩ := fieldV_sound h (hρ x) w
    exact ⟨v', by simp only [execOp, Sem.run_bind, h1, Result.andThen_ok, Sem.run_pure], h2⟩
  case indexAddr t x ix =>
    obtain ⟨v', h1, h2⟩ := indexAddrV_sound h (hρ x) (hρ ix) w
    exact ⟨v', by simp only [execOp, Sem.run_bind, h1, Result.andThen_ok, Sem.run_pure], h2⟩
  case index t x ix =>
    obtain ⟨v', h1, h2⟩ := indexV_sound h (hρ x) (hρ ix) w
    exact ⟨v', by simp only [execOp, Sem.run_bind, h1, Result.andThen_ok, Sem.run_pure], h2⟩
  case lookup t x ix ok =>
    obtain ⟨v', h1, h2⟩ := lookupV_sound hG h (hρ x) (hρ ix)
    exact ⟨v', by simp only [execOp, Sem.run_bind, h1, Result.andThen_ok, Sem.run_pure], h2⟩
  case extract x i =>
    have hx := hρ x
    cases hxv : ρ x <;> rw [hxv] at h hx <;> simp only [reduceCtorEq] at h
    obtain ⟨vs, h2, r⟩ := hx
    obtain ⟨v', h3, h4⟩ := r.get h
    have h3' : vs[i]? = some v' := by rw [← Array.getElem?_toList]; exact h3
    exact ⟨v', by simp only [execOp, h2, Instr.extract, h3', Sem.run_bind, Sem.run_pure, Result.andThen_ok], h4⟩
  case call c =>
    obtain ⟨callee, args, argTypes⟩ := c
    cases callee <;> (first | (cases h; done) | skip)
    rename_i b
    cases b <;> (first | (cases h; done) | skip)
    simp only at h
    split at h
    · rename_i x t ha ht
      obtain ⟨v', h1, h2⟩ := lenV_sound hG h (hρ x) type
      have e1 : args.map ρ' = #[ρ' x] := by apply Array.toList_inj.1; rw [Array.toList_map, ha]; rfl
      have e2 : argTypes = #[t] := by apply Array.toList_inj.1; rw [ht]
      exact ⟨v', by simp only [execOp, resolve, e1, e2, Sem.run_bind, Sem.run_pure, Result.andThen_ok, invoke, builtin, h1], h2⟩
    · cases h

/-! ### Rows of zeros -/
theorem tile_eq (z : Array Value) (hz : 0 < z.size) : ∀ n, ((Array.range (n * z.size)).map fun i => z[i % z.size]!).toList = (List.replicate n z.toList).flatten
  | 0 => by simp
  | n + 1 => by
    have ih := tile_eq z hz n
    simp only [Array.toList_map, Array.toList_range] at ih ⊢
    rw [Nat.add_mul, Nat.one_mul, Nat.add_comm, List.range_add, List.map_append, List.map_map, List.replicate_succ, List.flatten_cons, ← ih]
    congr 1
    · apply List.ext_getElem?
      intro i
      rcases Nat.lt_or_ge i z.size with h | h
      · simp [h, Nat.mod_eq_of_lt h]
      · simp [Nat.not_lt.2 h]
    · apply List.map_congr_left
      intro i _
      simp

theorem VRe_replicate {S : Nat} {z : V} {zs : List Value} (hz : VC g z zs) (hs : zs.length = S) : ∀ n, VRe g S (List.replicate n z) (List.replicate n zs).flatten
  | 0 => rfl
  | n + 1 => by
    rw [List.replicate_succ, List.replicate_succ, List.flatten_cons]
    exact VRe_cons.2 ⟨zs, _, rfl, hs, by rw [hz.ncells]; exact hs, hz, VRe_replicate hz hs n⟩

theorem VRs_replicate {cs : List V} {zs : List Value} (hz : VRs g cs zs) : ∀ n, VRs g (List.replicate n cs).flatten (List.replicate n zs).flatten
  | 0 => rfl
  | n + 1 => by rw [List.replicate_succ, List.replicate_succ, List.flatten_cons, List.flatten_cons]; exact hz.append (VRs_replicate hz n)

theorem VRe.set {S : Nat} {x : V} {ch : List Value} (hx : VC g x ch) (hs : ch.length = S) : ∀ {xs : List V} {vs : List Value} (i : Nat), VRe g S xs vs → i < xs.length →
    VRe g S (xs.set i x) (vs.take (i * S) ++ ch ++ vs.drop (i * S + ch.length))
  | [], _, _, _, h => by simp at h
  | y :: xs, vs, i, h, hi => by
    obtain ⟨c, vs', rfl, h1, h2, h3, h4⟩ := VRe_cons.1 h
    cases i with
    | zero =>
      refine VRe_cons.2 ⟨ch, vs', ?_, hs, by rw [hx.ncells]; exact hs, hx, h4⟩
      rw [Nat.zero_mul, List.take_zero, List.nil_append, Nat.zero_add, show ch.length = c.length by omega, List.drop_left']
      rfl
    | succ i =>
      refine VRe_cons.2 ⟨c, _, ?_, h1, h2, h3, VRe.set hx hs i h4 (by simpa using hi)⟩
      rw [show (i + 1) * S = c.length + i * S by rw [h1, Nat.add_mul, Nat.one_mul, Nat.add_comm], List.take_length_add_append, Nat.add_assoc, List.drop_length_add_append]
      simp [List.append_assoc]

theorem VC_of {x : V} {v : Value} (h : VR g x v) (he : isElem x = true) : VC g x v.cells.toList := by
  cases x
  case agg cs => obtain ⟨vs, rfl, h2⟩ := h; exact h2
  case any => cases he
  case tup => cases he
  all_goals
    have hc := cellsOf_VR h (cs := [_]) rfl
    simp only [VRs] at hc
    obtain ⟨u, us, h1, h2, h3, rfl⟩ := hc
    exact ⟨u, h1, h2, h3⟩

theorem setAll_length : ∀ (ps : List (Nat × V)) (xs : List V), (setAll xs ps).length = xs.length
  | [], _ => rfl
  | (i, x) :: ps, xs => by simp only [setAll]; rw [setAll_length ps]; simp

theorem setAll_sound {S : Nat} : ∀ {ps : List (Nat × V)} {qs : List (Nat × Value)} {xs : List V} {vs : Array Value} {len : Nat}, ps.all (fun p => isElem p.2 && ncells p.2 == S && decide (p.1 < len)) = true → PartsR g ps qs → xs.length = len → VRe g S xs vs.toList →
    ∃ vs', Instr.fill (fun i => some (i * S, S)) vs qs = some vs' ∧ VRe g S (setAll xs ps) vs'.toList
  | [], _, xs, vs, len, _, .nil, _, hv => ⟨vs, rfl, hv⟩
  | (i, x) :: ps, _, xs, vs, len, h, .cons hx hr, hl, hv => by
    rename_i y qs
    simp only [List.all_cons, Bool.and_eq_true, beq_iff_eq, decide_eq_true_eq] at h
    obtain ⟨⟨⟨h1, h2⟩, h3⟩, h4⟩ := h
    have hc := VC_of hx h1
    have hn := hc.ncells
    have hcl : y.cells.size = S := by rw [h2] at hn; simpa using hn.symm
    have hvl := hv.length
    simp only [Array.length_toList] at hvl
    have hfit : i * S + S ≤ vs.size := by rw [hvl, ← Nat.succ_mul]; exact Nat.mul_le_mul_right _ (by omega)
    simp only [Instr.fill]
    have hnot : ¬ ((decide (y.cells.size ≠ S) || decide (i * S + y.cells.size > vs.size)) = true) := by
      simp only [Bool.or_eq_true, decide_eq_true_eq, not_or]
      omega
    rw [if_neg hnot]
    simp only [setAll]
    refine setAll_sound h4 hr (by simpa using hl) ?_
    have hf := foldl_set_cells (i * S) y.cells.toList 0 vs (by simp; omega)
    have he : (Array.foldl (fun (cs : Array Value) (x : Value × Nat) => cs.setIfInBounds (i * S + x.2) x.1) vs y.cells.zipIdx).toList =
        vs.toList.take (i * S) ++ y.cells.toList ++ vs.toList.drop (i * S + y.cells.toList.length) := by
      rw [← Array.foldl_toList, Array.toList_zipIdx]; simpa using hf
    have := hv.set hc.stripAgg (by simpa using hcl) i (by omega)
    rw [← he] at this
    exact this

theorem buildSliceV_sound (hG : GR g st w0 base w) {t : TypeId} {len : Nat} {ps : List (Nat × V)} {v : V} (h : buildSliceV C t len ps = some v) {qs : Array (Nat × Value)} (hp : PartsR g ps qs.toList) :
    ∃ v' w' g', (Instr.buildSlice t len qs).run C.P w = .ok v' w' ∧ g.le g' ∧ VR g' v v' ∧ GR g' st w0 base w' ∧ (∀ i, g'.κ i = g.κ i ∧ g'.θ i = g.θ i) := by
  unfold buildSliceV at h
  split at h
  · rename_i elem hu
    split at h
    · rename_i s z hs hz
      split at h
      · rename_i hok
        obtain ⟨h0, h24, hel, hnz, hall⟩ := hok
        cases h
        obtain ⟨zv, hzr, hz2⟩ := run_zeroV hz w
        have hzv : VR g z zv := by rw [hz2]; exact ofVal_VR g zv
        have hzc := VC_of hzv hel
        have hzs : zv.cells.size = s := by have := hzc.ncells; rw [hnz] at this; simpa using this.symm
        have htile := tile_eq zv.cells (by omega) len
        have hrep : VRe g s (List.replicate len (stripAgg z)) ((Array.range (len * s)).map fun i => zv.cells[i % zv.cells.size]!).toList := by
          rw [hzs] at htile ⊢
          rw [htile]
          exact VRe_replicate hzc.stripAgg (by simpa using hzs) len
        obtain ⟨vs', hf, hv'⟩ := setAll_sound (len := len) hall hp (by simp) hrep
        have hsl := setAll_length ps (List.replicate len (stripAgg z))
        simp only [List.length_replicate] at hsl
        have hal := hG.alloc_row vs'.toList #[] elem (0, 0)
        simp only [Array.toArray_toList, Array.append_empty] at hal
        have h24' : ¬ (len * s > 2 ^ 24) := by omega
        refine ⟨.slice (some ⟨w.heap.size, 0, none⟩) len len, _, _, ?_, hal.2, ?_, hal.1, fun i => ⟨rfl, rfl⟩⟩
        · by_cases hl0 : len * s = 0
          · have hlen0 : len = 0 := by rcases Nat.mul_eq_zero.1 hl0 with h | h; exact h; omega
            subst hlen0
            simp only [Nat.zero_mul, Array.range_zero', Array.map_empty] at hf
            simp only [Instr.buildSlice, Sem.run_bind, run_underlying hu, Result.andThen_ok, run_szOf hs, h24', if_false, Nat.zero_mul, if_true, Sem.run_pure, Array.range_zero', Array.map_empty, hf, newRow, run_newObj]
            simp
          · simp only [Instr.buildSlice, Sem.run_bind, run_underlying hu, Result.andThen_ok, run_szOf hs, h24', if_false, hl0, hzr, Sem.run_pure, hf, newRow, run_newObj]
            rfl
        · refine ⟨some ⟨w.heap.size, 0, none⟩, len, vs'.toList, s, by rw [hsl], hv'.mono hal.2, by rw [hsl]; rfl, by rw [hsl]; exact Nat.le_refl _, fun _ => ⟨w.heap.size, 0, rfl, Ghost.row_withRow _ _⟩⟩
      · cases h
    · cases h
  · cases h
theorem buildSliceV_row (hG : GR g st w0 base w) {t : TypeId} {len : Nat} {ps : List (Nat × V)} {v : V} (h : buildSliceV C t len ps = some v) {qs : Array (Nat × Value)} (hp : PartsR g ps qs.toList) :
    ∃ (vs : Array Value) (elem : TypeId) (g' : Ghost), (Instr.buildSlice t len qs).run C.P w = .ok (.slice (some ⟨w.heap.size, 0, none⟩) len len) (w.alloc (.cells vs elem)) ∧ C.P.underlying t = some (.slice elem) ∧ g.le g' ∧ VR g' v (.slice (some ⟨w.heap.size, 0, none⟩) len len) ∧ (∀ fz, GR g' st w0 base (w.alloc (.cells vs elem fz))) ∧ (∀ i, g'.κ i = g.κ i ∧ g'.θ i = g.θ i) := by
  unfold buildSliceV at h
  split at h
  · rename_i elem hu
    split at h
    · rename_i s z hs hz
      split at h
      · rename_i hok
        obtain ⟨h0, h24, hel, hnz, hall⟩ := hok
        cases h
        obtain ⟨zv, hzr, hz2⟩ := run_zeroV hz w
        have hzv : VR g z zv := by rw [hz2]; exact ofVal_VR g zv
        have hzc := VC_of hzv hel
        have hzs : zv.cells.size = s := by have := hzc.ncells; rw [hnz] at this; simpa using this.symm
        have htile := tile_eq zv.cells (by omega) len
        have hrep : VRe g s (List.replicate len (stripAgg z)) ((Array.range (len * s)).map fun i => zv.cells[i % zv.cells.size]!).toList := by
          rw [hzs] at htile ⊢
          rw [htile]
          exact VRe_replicate hzc.stripAgg (by simpa using hzs) len
        obtain ⟨vs', hf, hv'⟩ := setAll_sound (len := len) hall hp (by simp) hrep
        have hsl := setAll_length ps (List.replicate len (stripAgg z))
        simp only [List.length_replicate] at hsl
        have hal := fun fz => hG.alloc_row vs'.toList #[] elem fz
        simp only [Array.toArray_toList, Array.append_empty] at hal
        have h24' : ¬ (len * s > 2 ^ 24) := by omega
        refine ⟨vs', elem, _, ?_, hu, (hal (0, 0)).2, ?_, fun fz => (hal fz).1, fun i => ⟨rfl, rfl⟩⟩
        · by_cases hl0 : len * s = 0
          · have hlen0 : len = 0 := by rcases Nat.mul_eq_zero.1 hl0 with h | h; exact h; omega
            subst hlen0
            simp only [Nat.zero_mul, Array.range_zero', Array.map_empty] at hf
            simp only [Instr.buildSlice, Sem.run_bind, run_underlying hu, Result.andThen_ok, run_szOf hs, h24', if_false, Nat.zero_mul, if_true, Sem.run_pure, Array.range_zero', Array.map_empty, hf, newRow, run_newObj]
            simp
          · simp only [Instr.buildSlice, Sem.run_bind, run_underlying hu, Result.andThen_ok, run_szOf hs, h24', if_false, hl0, hzr, Sem.run_pure, hf, newRow, run_newObj]
            rfl
        · refine ⟨some ⟨w.heap.size, 0, none⟩, len, vs'.toList, s, by rw [hsl], hv'.mono (hal (0, 0)).2, by rw [hsl]; rfl, by rw [hsl]; exact Nat.le_refl _, fun _ => ⟨w.heap.size, 0, rfl, Ghost.row_withRow _ _⟩⟩
      · cases h
    · cases h
  · cases h
end
end Go.Vm
