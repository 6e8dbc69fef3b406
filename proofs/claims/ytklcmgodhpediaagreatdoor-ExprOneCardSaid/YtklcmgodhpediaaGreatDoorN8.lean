/- What an operation yields by the evaluator, it yields in the model: operations that make memory, that write it, that append. -/
import Derived.Test.YtklcmgodhpediaaGreatDoorN7
set_option linter.unusedSimpArgs false
set_option linter.unusedVariables false
namespace Go.Vm
open Go Go.RowKit

section
variable {C : Cfg} {g : Ghost} {w : World} {st : St} {w0 : W0} {base : Nat}

theorem wrap_small {n : Int} (h0 : 0 ≤ n) (h : n < 2 ^ 62) : IntKind.i64.wrap n = n := by
  have e : n % (2 ^ 64 : Int) = n := Int.emod_eq_of_lt h0 (by omega)
  show (if (true && decide (n % (2 ^ 64 : Int) ≥ (2 ^ 63 : Int))) = true then n % (2 ^ 64 : Int) - 2 ^ 64 else n % (2 ^ 64 : Int)) = n
  rw [e, if_neg (by simp; omega)]

theorem bytesWorld_heap (w : World) (e : TypeId) (s : ByteArray) : (Lib.bytesWorld w e s).heap = (w.drew.alloc (.cells (Lib.bytesCells w e s) e ((Lib.bytesCells w e s).size, (Lib.bytesCells w e s).size + 1))).heap := by
  apply Array.ext_getElem?
  intro i
  rcases Nat.lt_trichotomy i w.heap.size with h | h | h
  · rw [Lib.bytesWorld_at_old w e s i h]
    exact (heap_old w.drew _ h).symm
  · subst h
    rw [Lib.bytesWorld_at_new]
    exact (heap_new w.drew _).symm
  · rw [Array.getElem?_eq_none (by rw [Lib.bytesWorld_size]; omega), Array.getElem?_eq_none (by simp; omega)]

theorem toByteCells (s : List UInt8) : VRe g 1 (ofBytes s) (s.map fun b => Value.int .u8 b.toNat) := by
  induction s with
  | nil => rfl
  | cons b s ih => exact VRe_cons.2 ⟨[.int .u8 b.toNat], _, rfl, rfl, rfl, ⟨_, rfl, rfl, rfl⟩, ih⟩

/-- Operations that make memory: the name that is told for them stands for it from now on. -/
theorem al_sound (hG : GR g st w0 base w) {ρ : Operand → V} {ρ' : Operand → Value} (hρ : ∀ x, VR g (ρ x) (ρ' x)) (o : Oper) {n : Nat} {v : V} {ob : Option Ob} (h : alOp C n ρ o.op = some (v, ob))
    (hob : ∀ x, ob = some x → hget st.H n = some x ∧ n < st.n ∧ g.κ n = none ∧ g.θ n = none) :
    ∃ v' w' g', (execOp ρ' o).run C.P w = .ok (.value v') w' ∧ g.le g' ∧ VR g' v v' ∧ GR g' st w0 base w' ∧ (∀ i, (i ≠ n ∨ ob = none) → g'.κ i = g.κ i ∧ g'.θ i = g.θ i) := by
  obtain ⟨dst, op, type, pos, after, guard⟩ := o
  simp only at h
  cases op <;> simp only [alOp, reduceCtorEq] at h
  case alloc t =>
    cases hz : zeroV C t with
    | none => rw [hz] at h; cases h
    | some z =>
      rw [hz, Option.bind_some] at h
      cases hc : cellsOf z with
      | none => rw [hc] at h; cases h
      | some cs =>
        rw [hc] at h; cases h
        obtain ⟨h1, h2, h3, h4⟩ := hob _ rfl
        obtain ⟨zv, hzr, hz2⟩ := run_zeroV hz w
        have hzv : VR g z zv := by rw [hz2]; exact ofVal_VR g zv
        obtain ⟨m1, m2⟩ := hG.mat_cells h1 h3 h4 h2 (cellsOf_VR hzv hc) t
        refine ⟨.pointer (some ⟨w.heap.size, 0, none⟩), _, _, ?_, m2, ⟨w.heap.size, by simp [Ghost.withκ], rfl⟩, m1, fun i hi => ⟨by simp [Ghost.withκ, hi.resolve_right (by simp)], rfl⟩⟩
        simp only [execOp, Instr.alloc, Sem.run_bind, hzr, Result.andThen_ok, newVar, newRow, run_newObj, Sem.run_pure]
        rfl
  case box t x =>
    cases hc : cellsOf (ρ x) with
    | none => rw [hc] at h; cases h
    | some cs =>
      rw [hc] at h; cases h
      obtain ⟨h1, h2, h3, h4⟩ := hob _ rfl
      obtain ⟨m1, m2⟩ := hG.mat_cells h1 h3 h4 h2 (cellsOf_VR (hρ x) hc) t
      refine ⟨.pointer (some ⟨w.heap.size, 0, none⟩), _, _, ?_, m2, ⟨w.heap.size, by simp [Ghost.withκ], rfl⟩, m1, fun i hi => ⟨by simp [Ghost.withκ, hi.resolve_right (by simp)], rfl⟩⟩
      simp only [execOp, Instr.box, Sem.run_bind, Result.andThen_ok, newVar, newRow, run_newObj, Sem.run_pure]
      rfl
  case buildSlice t len parts =>
    cases hb : buildSliceV C t len (parts.toList.map fun (i, x) => (i, ρ x)) with
    | none => rw [hb] at h; cases h
    | some u =>
      rw [hb] at h; cases h
      have hp : PartsR g (parts.toList.map fun (i, x) => (i, ρ x)) (parts.map fun (i, x) => (i, ρ' x)).toList := by rw [Array.toList_map]; exact PartsR.of hρ parts.toList
      obtain ⟨v', w', g', h1, h2, h3, h4, h5⟩ := buildSliceV_sound hG hb hp
      exact ⟨v', w', g', by simp only [execOp, Sem.run_bind, h1, Result.andThen_ok, Sem.run_pure], h2, h3, h4, fun i _ => h5 i⟩
  case makeMap t r =>
    cases r with
    | some x => cases h
    | none =>
      cases h
      obtain ⟨h1, h2, h3, h4⟩ := hob _ rfl
      obtain ⟨m1, m2⟩ := hG.mat_map h1 h3 h2 0
      refine ⟨.map (some w.heap.size), _, _, ?_, m2, ⟨w.heap.size, by simp [Ghost.withκ], rfl⟩, m1, fun i hi => ⟨by simp [Ghost.withκ, hi.resolve_right (by simp)], rfl⟩⟩
      simp only [execOp, Instr.makeMap, Option.map_none, Sem.run_bind, Result.andThen_ok, run_newObj, Sem.run_pure]
      rfl
  case convert s d x =>
    split at h
    · rename_i sd e l hs hd hx
      split at h
      · rename_i hu
        cases h
        obtain ⟨h1, h2, h3, h4⟩ := hob _ rfl
        have hxr := hρ x
        rw [hx] at hxr
        simp only [VR] at hxr
        have hrun := Lib.run_convert_string_bytes w s d e ⟨l.toArray⟩ hs hd (isU8_spec hu.1)
        have hge := grownCap_ge w l.length 0 e
        have hcells : Lib.bytesCells w e ⟨l.toArray⟩ = (l.map fun b => Value.int .u8 b.toNat).toArray ++ Array.replicate (grownCap w l.length 0 e - l.length) (.int .u8 0) := by
          unfold Lib.bytesCells
          rw [bytes_size]
          congr 1
          apply Array.toList_inj.1; simp
        have hlen : (Lib.bytesCells w e ⟨l.toArray⟩).size = grownCap w l.length 0 e := by rw [hcells]; simp; omega
        obtain ⟨m1, m2⟩ := hG.drew.mat_tip h1 h3 h4 h2 (l.map fun b => Value.int .u8 b.toNat) (Array.replicate (grownCap w l.length 0 e - l.length) (.int .u8 0)) e (grownCap w l.length 0 e, grownCap w l.length 0 e + 1)
          (tot := grownCap w l.length 0 e) (by simp; omega) (fun y hy => by simp at hy ⊢; omega)
        rw [← hcells] at m1
        have hsame := m1.same (w' := Lib.bytesWorld w e ⟨l.toArray⟩) (by rw [bytesWorld_heap, hlen]) rfl rfl rfl
        refine ⟨.slice (some ⟨w.heap.size, 0, none⟩) l.length (grownCap w l.length 0 e), _, _, ?_, m2, ?_, hsame, fun i hi => ⟨by simp [Ghost.withRow, Ghost.withκ, Ghost.withθ, hi.resolve_right (by simp)], by simp [Ghost.withRow, Ghost.withκ, Ghost.withθ, hi.resolve_right (by simp)]⟩⟩
        · simp only [execOp, hxr, Sem.run_bind, hrun, Result.andThen_ok, Sem.run_pure, bytes_size]
        · have hol : (ofBytes l).length = l.length := by simp [ofBytes]
          refine ⟨some ⟨w.heap.size, 0, none⟩, grownCap w l.length 0 e, l.map fun b => Value.int .u8 b.toNat, 1, by rw [hol], toByteCells l, ?_, by rw [hol]; exact hge, fun _ => ⟨w.heap.size, 0, rfl, ?_⟩⟩
          · refine ⟨w.heap.size, 0, rfl, by simp [Ghost.withRow, Ghost.withκ, Ghost.withθ], ?_⟩
            simp [Ghost.withRow, Ghost.withκ, Ghost.withθ, hol]
          · intro i u hu'
            simp only [Ghost.withRow, Ghost.withκ, Ghost.withθ, Nat.zero_add]
            rw [if_pos (show w.heap.size = w.drew.heap.size from rfl)]; exact hu'
      · cases h
    · cases h
  case makeSlice t l c =>
    split at h
    · rename_i e kl i kc j hu hl hc
      split at h
      · rename_i s zs hs hz
        split at h
        · rename_i hok
          obtain ⟨h0, hij, hs0, hzl, hby, h62⟩ := hok
          cases hzz : zeroV C e with
          | none => rw [hzz] at hz; cases hz
          | some z =>
            rw [hzz, Option.bind_some] at hz
            obtain ⟨zv, hzr, hz2⟩ := run_zeroV hzz w
            have hzv : VR g z zv := by rw [hz2]; exact ofVal_VR g zv
            have hzc := cellsOf_VR hzv hz
            have hzs : zv.cells.size = s := by have := hzc.length; simp only [Array.length_toList] at this; omega
            obtain ⟨inf, hi1, hi2⟩ := szOf_info hs
            have hbytes : byOf C e = inf.bytes := by simp [byOf, hi1]
            have hlr := hρ l
            have hcr := hρ c
            rw [hl] at hlr
            rw [hc] at hcr
            simp only [VR] at hlr hcr
            have hrun : ∀ (a : Array Value), a = ((Array.range (j.toNat * s)).map fun x => zv.cells[x % zv.cells.size]!) →
                (Instr.makeSlice t (.int kl i) (.int kc j)).run C.P w = .ok (.slice (some ⟨w.heap.size, 0, none⟩) i.toNat j.toNat) (w.alloc (.cells a e)) := by
              intro a ha
              have hw1 := wrap_small h0 (by omega)
              have hw2 := wrap_small (n := j) (by omega) h62
              have hbn : ¬ ((inf.bytes : Int) * j > 2 ^ 48) := by rw [hbytes, Int.mul_comm] at hby; omega
              have hcond : ¬ (((decide (j < 0) || decide ((inf.bytes : Int) * j > 2 ^ 48)) || decide (i < 0) || decide (i > j)) = true) := by
                simp only [Bool.or_eq_true, decide_eq_true_eq, not_or]
                exact ⟨⟨⟨by omega, hbn⟩, by omega⟩, by omega⟩
              simp only [Instr.makeSlice, Sem.run_bind, run_underlying hu, Result.andThen_ok, asInt, asIntOf, Sem.run_pure, typeInfo, run_program, hi1, hw1, hw2, hcond, Bool.false_eq_true, if_false, run_askRoom, run_szOf hs]
              by_cases hn0 : j.toNat * s = 0
              · simp only [hn0, if_true, Sem.run_pure, Result.andThen_ok, newRow, run_newObj, Sem.run_bind]
                rw [ha, hn0]
                simp [Array.range_zero']
              · simp only [hn0, if_false, Sem.run_bind, hzr, Sem.run_pure, Result.andThen_ok, newRow, run_newObj]
                rw [ha]
                rfl
            split at h
            · rename_i hijE
              subst hijE
              cases h
              obtain ⟨h1, h2, h3, h4⟩ := hob _ rfl
              have htile := tile_eq zv.cells (by omega) i.toNat
              rw [hzs] at htile
              have hv : VRs g (List.replicate i.toNat zs).flatten ((Array.range (i.toNat * s)).map fun x => zv.cells[x % zv.cells.size]!).toList := by
                rw [hzs, htile]; exact VRs_replicate hzc _
              obtain ⟨m1, m2⟩ := hG.mat_cells h1 h3 h4 h2 hv e
              refine ⟨.slice (some ⟨w.heap.size, 0, none⟩) i.toNat i.toNat, _, _, ?_, m2, ⟨w.heap.size, by simp [Ghost.withκ], _, rfl, Nat.le_refl _, .inl ⟨rfl, by unfold unk; omega⟩⟩, m1, fun k hk => ⟨by simp [Ghost.withκ, hk.resolve_right (by simp)], rfl⟩⟩
              simp only [execOp, hlr, hcr, Sem.run_bind, hrun _ rfl, Result.andThen_ok, Sem.run_pure]
            · split at h
              · rename_i hi0
                subst hi0
                cases h
                obtain ⟨h1, h2, h3, h4⟩ := hob _ rfl
                obtain ⟨m1, m2⟩ := hG.mat_tip h1 h3 h4 h2 [] ((Array.range (j.toNat * s)).map fun x => zv.cells[x % zv.cells.size]!) e (0, 0) (tot := j.toNat * s) (by simp) (fun y _ hy => by simp at hy)
                simp only [List.nil_append, Array.empty_append] at m1
                refine ⟨.slice (some ⟨w.heap.size, 0, none⟩) 0 j.toNat, _, _, ?_, m2, ?_, m1, fun k hk => ⟨by simp [Ghost.withRow, Ghost.withκ, Ghost.withθ, hk.resolve_right (by simp)], by simp [Ghost.withRow, Ghost.withκ, Ghost.withθ, hk.resolve_right (by simp)]⟩⟩
                · simp only [execOp, hlr, hcr, Sem.run_bind, hrun _ rfl, Result.andThen_ok, Sem.run_pure]
                  rfl
                · refine ⟨some ⟨w.heap.size, 0, none⟩, j.toNat, [], s, rfl, rfl, ⟨w.heap.size, 0, rfl, by simp [Ghost.withRow, Ghost.withκ, Ghost.withθ], by simp [Ghost.withRow, Ghost.withκ, Ghost.withθ]⟩, Nat.zero_le _, fun h => absurd rfl h⟩
              · cases h
        · cases h
      · cases h
    · cases h
end
end Go.Vm
