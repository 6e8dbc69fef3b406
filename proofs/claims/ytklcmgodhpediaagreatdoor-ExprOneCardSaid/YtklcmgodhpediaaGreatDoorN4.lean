/- What an operation yields by the evaluator, it yields in the model: operations that leave memory alone. -/
import Derived.Test.YtklcmgodhpediaaGreatDoorN3
import Derived.Laws.StructEq
import Derived.Laws.Append
import Derived.Laws.Entries
set_option linter.unusedSimpArgs false
set_option linter.unusedVariables false
namespace Go.Vm
open Go Go.RowKit

/-! ### Words of the program's tables -/
section
variable {C : Cfg} {g : Ghost} {w : World}

theorem szOf_info {t : TypeId} {s : Nat} (h : szOf C t = some s) : ∃ i, C.P.info? t = some i ∧ i.size = s := by
  unfold szOf at h
  cases hi : C.P.info? t with
  | none => rw [hi] at h; cases h
  | some i => rw [hi] at h; exact ⟨i, rfl, by simpa using h⟩

theorem run_szOf {t : TypeId} {s : Nat} (h : szOf C t = some s) (w : World) : (sizeOf t).run C.P w = .ok s w := by
  obtain ⟨i, h1, h2⟩ := szOf_info h
  simp [sizeOf, typeInfo, h1, h2]

theorem run_isAggT {t : TypeId} {d : TypeDesc} (h : C.P.underlying t = some d) (w : World) : (isAgg t).run C.P w = .ok (isAggT d) w := by
  simp only [isAgg, Sem.run_bind, run_underlying h, Result.andThen_ok]
  cases d <;> rfl

theorem zeroV_info {t : TypeId} {z : V} (h : zeroV C t = some z) : ∃ i zv, C.P.info? t = some i ∧ i.zero = some zv ∧ z = ofVal zv := by
  unfold zeroV at h
  cases hi : C.P.info? t with
  | none => rw [hi] at h; cases h
  | some i =>
    rw [hi] at h
    cases hz : i.zero with
    | none => rw [Option.bind_some, hz] at h; cases h
    | some zv => rw [Option.bind_some, hz] at h; exact ⟨i, zv, rfl, hz, by simpa using h.symm⟩

theorem run_zeroV {t : TypeId} {z : V} (h : zeroV C t = some z) (w : World) : ∃ zv, (zeroValue t).run C.P w = .ok zv w ∧ z = ofVal zv := by
  obtain ⟨i, zv, h1, h2, h3⟩ := zeroV_info h
  exact ⟨zv, by simp [zeroValue, typeInfo, h1, h2], h3⟩

/-! ### Values that are written down -/
theorem ofScalar_VR (g : Ghost) (v : Value) : VR g (ofScalar v) v := by
  unfold ofScalar
  split
  · rfl
  · rfl
  · simp only [VR]
  · rfl
  · exact ⟨none, 0, [], 0, rfl, rfl, rfl, Nat.le_refl _, fun h => absurd rfl h⟩
  · rfl
  · rename_i fn fi ca
    split
    · rename_i h
      simp only [Bool.and_eq_true, Array.isEmpty_iff] at h
      exact ⟨fi, ca, rfl, by rw [h.1]; rfl, by rw [h.2]; rfl⟩
    · trivial
  · rfl
  · rfl
  · trivial

theorem ofCell_VR (g : Ghost) : ∀ v : Value, VR g (ofCell v) v
  | .iface _ x => ⟨x, rfl, ofScalar_VR g x⟩
  | .bool b => ofScalar_VR g (.bool b)
  | .int k n => ofScalar_VR g (.int k n)
  | .float k n => ofScalar_VR g (.float k n)
  | .complex k a b => ofScalar_VR g (.complex k a b)
  | .string s => ofScalar_VR g (.string s)
  | .pointer a => ofScalar_VR g (.pointer a)
  | .slice a l c => ofScalar_VR g (.slice a l c)
  | .map r => ofScalar_VR g (.map r)
  | .chan r => ofScalar_VR g (.chan r)
  | .func f a b => ofScalar_VR g (.func f a b)
  | .nilFunc => ofScalar_VR g (.nilFunc)
  | .nilIface => ofScalar_VR g (.nilIface)
  | .agg c => ofScalar_VR g (.agg c)
  | .tuple c => ofScalar_VR g (.tuple c)

theorem ofCells_VRs (g : Ghost) : ∀ (l : List Value), l.all (·.oneCell') = true → VRs g (l.map ofCell) l
  | [], _ => rfl
  | v :: l, h => by
    simp only [List.all_cons, Bool.and_eq_true] at h
    exact ⟨v, l, rfl, h.1, ofCell_VR g v, ofCells_VRs g l h.2⟩

theorem ofCells_VRl (g : Ghost) : ∀ (l : List Value), VRl g (l.map ofCell) l
  | [] => rfl
  | v :: l => ⟨v, l, rfl, ofCell_VR g v, ofCells_VRl g l⟩

theorem ofVal_VR (g : Ghost) : ∀ v : Value, VR g (ofVal v) v
  | .agg cs => by
    simp only [ofVal]
    split
    · rename_i h; exact ⟨cs, rfl, ofCells_VRs g _ h⟩
    · trivial
  | .tuple vs => ⟨vs, rfl, ofCells_VRl g _⟩
  | .bool b => ofCell_VR g (.bool b)
  | .int k n => ofCell_VR g (.int k n)
  | .float k n => ofCell_VR g (.float k n)
  | .complex k a b => ofCell_VR g (.complex k a b)
  | .string s => ofCell_VR g (.string s)
  | .pointer a => ofCell_VR g (.pointer a)
  | .slice a l c => ofCell_VR g (.slice a l c)
  | .map r => ofCell_VR g (.map r)
  | .chan r => ofCell_VR g (.chan r)
  | .func f a b => ofCell_VR g (.func f a b)
  | .nilFunc => ofCell_VR g (.nilFunc)
  | .nilIface => ofCell_VR g (.nilIface)
  | .iface t x => ofCell_VR g (.iface t x)

/-! ### Parts of rows of cells -/
theorem partV_sound {t : TypeId} {cs : List V} {off : Nat} {v : V} (h : partV C t cs off = some v) {vs : Array Value} (hv : VRs g cs vs.toList) (w : World) :
    ∃ v', (part t vs off).run C.P w = .ok v' w ∧ VR g v v' := by
  unfold partV at h
  cases hu : C.P.underlying t with
  | none => rw [hu] at h; cases h
  | some d =>
    rw [hu] at h
    simp only [part, Sem.run_bind, run_isAggT hu, Result.andThen_ok]
    by_cases ha : isAggT d = true
    · simp only [ha, if_true] at h ⊢
      cases hs : szOf C t with
      | none => rw [hs] at h; cases h
      | some s =>
        rw [hs] at h
        simp only at h
        split at h
        · rename_i hle
          cases h
          simp only [Sem.run_bind, run_szOf hs, Result.andThen_ok, Sem.run_pure]
          refine ⟨_, rfl, _, rfl, ?_⟩
          have := (hv.drop off).take s
          rw [Array.toList_extract, List.extract_eq_take_drop]
          rw [Nat.add_sub_cancel_left]
          exact this
        · cases h
    · simp only [ha, Bool.false_eq_true, if_false] at h ⊢
      obtain ⟨x, hx, _, hr⟩ := hv.get h
      have hx' : vs[off]? = some x := by rw [← Array.getElem?_toList]; exact hx
      simp only [hx', Sem.run_pure]
      exact ⟨x, rfl, hr⟩

/-- A stretch of memory that reads as these values. -/
def Reads (w : World) (B o : Nat) (vs : List Value) : Prop := ∀ i v, vs[i]? = some v → w.cell? ⟨B, o + i, none⟩ = some v

theorem add_addr (B o n : Nat) : (⟨B, o, none⟩ : Addr).add n = ⟨B, o + n, none⟩ := by
  unfold Addr.add; split
  · rename_i h; subst h; rfl
  · rfl

theorem run_loadCells_reads {B o : Nat} {vs : List Value} (h : Reads w B o vs) : (loadCells ⟨B, o, none⟩ vs.length).run C.P w = .ok vs.toArray w :=
  run_loadCells_list w ⟨B, o, none⟩ vs fun j v hj => by rw [add_addr]; exact h j v hj

/-- 'part', out of memory. -/
theorem loadVar_sound {t : TypeId} {cs : List V} {off B o : Nat} {v : V} (h : partV C t cs off = some v) {vs : List Value} (hv : VRs g cs vs) (hr : Reads w B o vs) :
    ∃ v', (loadVar t ⟨B, o + off, none⟩).run C.P w = .ok v' w ∧ VR g v v' := by
  unfold partV at h
  cases hu : C.P.underlying t with
  | none => rw [hu] at h; cases h
  | some d =>
    rw [hu] at h
    simp only [loadVar, Sem.run_bind, run_isAggT hu, Result.andThen_ok]
    by_cases ha : isAggT d = true
    · simp only [ha, if_true] at h ⊢
      cases hs : szOf C t with
      | none => rw [hs] at h; cases h
      | some s =>
        rw [hs] at h
        simp only at h
        split at h
        · rename_i hle
          cases h
          have hlen : ((vs.drop off).take s).length = s := by rw [List.length_take, List.length_drop, ← hv.length]; omega
          have hrd : Reads w B (o + off) ((vs.drop off).take s) := fun i v hi => by
            rw [List.getElem?_take] at hi
            split at hi
            · rw [List.getElem?_drop] at hi; have := hr _ _ hi; rwa [← Nat.add_assoc] at this
            · cases hi
          have hl := run_loadCells_reads (C := C) hrd
          rw [hlen] at hl
          simp only [Sem.run_bind, run_szOf hs, Result.andThen_ok, Sem.run_pure, hl]
          exact ⟨_, rfl, _, rfl, (hv.drop off).take s⟩
        · cases h
    · simp only [ha, Bool.false_eq_true, if_false] at h ⊢
      obtain ⟨x, hx, _, hxr⟩ := hv.get h
      have := hr off x hx
      rw [run_load, this]
      exact ⟨x, rfl, hxr⟩

/-! ### What objects hold -/
section
variable {st : St} {w0 : W0} {base : Nat}
theorem GR.reads (h : GR g st w0 base w) {B o : Nat} {vs : List Value} (hr : g.row B o vs) : Reads w B o vs := fun i v hi => h.stab _ _ _ (hr i v hi)

theorem GR.reads_obj (h : GR g st w0 base w) {b B : Nat} {cs : List V} (hb : hget st.H b = some (.cells cs)) (hκ : g.κ b = some B) :
    ∃ vs, VRs g cs vs ∧ Reads w B 0 vs ∧ True := by
  obtain ⟨vs, more, elem, fz, h1, h2, _, _⟩ := h.obj b _ B hb hκ
  refine ⟨vs.toList, h2, fun i v hi => ?_, trivial⟩
  simp only [World.cell?, h1, Option.isSome_none, Bool.false_eq_true, if_false, Nat.zero_add]
  rw [Array.getElem?_append_left (by rw [← Array.length_toList]; exact (List.getElem?_eq_some_iff.1 hi).1), ← Array.getElem?_toList]; exact hi
end

/-! ### Strings -/
theorem bytes_toList (l : List UInt8) : (ByteArray.mk l.toArray).toList = l := by rw [ByteArray.toList_eq]
theorem bytes_eq (s : ByteArray) : ByteArray.mk s.data.toList.toArray = s := by cases s; simp
theorem bytes_size (l : List UInt8) : (ByteArray.mk l.toArray).size = l.length := rfl
theorem bytes_append (a b : List UInt8) : ByteArray.mk a.toArray ++ ByteArray.mk b.toArray = ByteArray.mk (a ++ b).toArray := by
  apply ByteArray.ext; simp
theorem bytes_extract (s : List UInt8) (l h : Nat) : (ByteArray.mk s.toArray).extract l h = ByteArray.mk ((s.take h).drop l).toArray := by
  apply ByteArray.ext
  apply Array.toList_inj.1
  simp [ByteArray.data_extract, List.drop_take]

theorem run_stringOp {op : BinOp} {a b : List UInt8} {v : V} (h : strBin op a b = some v) (w : World) :
    ∃ v', (Op.stringOp op ⟨a.toArray⟩ ⟨b.toArray⟩).run C.P w = .ok v' w ∧ VR g v v' := by
  cases op <;> simp only [strBin, Option.some.injEq, reduceCtorEq] at h
  case add =>
    split at h
    · rename_i hle
      cases h
      have : ¬ (((a.toArray.size + b.toArray.size : Nat) : Int) > IntKind.i64.max) := by
        simp only [List.size_toArray, IntKind.max, IntKind.signed, IntKind.bits, if_true]
        omega
      simp only [Op.stringOp, bytes_size]
      rw [if_neg (by simpa using this)]
      exact ⟨_, rfl, by simp only [VR]; rw [bytes_append]⟩
    · cases h
  all_goals
    subst h
    simp only [Op.stringOp, bytes_toList, bytesLess, Sem.run_pure]
    exact ⟨_, rfl, rfl⟩

/-! ### Arithmetic -/
theorem run_intBin {op : BinOp} {k : IntKind} {a b : Int} {v : V} (h : intBin op k a b = some v) (t : TypeId) (w : World) :
    ∃ v', (binOp op t (.int k a) (.int k b)).run C.P w = .ok v' w ∧ VR g v v' := by
  cases op <;> simp only [intBin, Option.some.injEq, reduceCtorEq] at h
  case quo =>
    split at h
    · cases h
    · rename_i hb; cases h; simp only [binOp, Op.intDiv, hb, if_false, ne_eq, not_true]; exact ⟨_, rfl, rfl⟩
  case rem =>
    split at h
    · cases h
    · rename_i hb; cases h; simp only [binOp, Op.intDiv, hb, if_false, ne_eq, not_true]; exact ⟨_, rfl, rfl⟩
  all_goals
    subst h
    simp only [binOp, Op.intArith, Op.intBits, Op.intCmp, ne_eq, not_true, if_false]
    exact ⟨_, rfl, rfl⟩

theorem run_shiftBin {op : BinOp} {k k' : IntKind} {a b : Int} {v : V} (h : shiftBin op k a b = some v) (hs : op = .shl ∨ op = .shr) (t : TypeId) (w : World) :
    ∃ v', (binOp op t (.int k a) (.int k' b)).run C.P w = .ok v' w ∧ VR g v v' := by
  unfold shiftBin at h
  split at h
  · cases h
  · rename_i hb
    rcases hs with rfl | rfl <;> cases h <;> simp only [binOp, Op.shift, hb, if_false] <;> exact ⟨_, rfl, rfl⟩

theorem run_unV {op : UnOp} {x v : V} (h : unV op x = some v) {x' : Value} (hx : VR g x x') (w : World) : ∃ v', (Op.unary op x').run C.P w = .ok v' w ∧ VR g v v' := by
  cases op <;> cases x <;> simp only [unV, Option.some.injEq, reduceCtorEq] at h <;> subst h <;> simp only [VR] at hx <;> subst hx <;>
    simp only [Op.unary, Op.intArith, Op.intBits] <;> exact ⟨_, rfl, rfl⟩

/-! ### Equality -/
theorem eqU_sound {u : TypeDesc} {t : TypeId} {x y : V} {r : Bool} (h : eqU u x y = some r) (hu : C.P.underlying t = some u) {x' y' : Value} (hx : VR g x x') (hy : VR g y y') (d : Nat) (w : World) :
    (Op.equalIn (d + 1) t x' y').run C.P w = .ok r w := by
  unfold eqU at h
  split at h
  case h_2 =>
    split at h
    · rename_i hk; subst hk; cases h; simp only [VR] at hx hy; subst hx; subst hy; simp [Op.equalIn, run_underlying hu]
    · cases h
  all_goals cases h
  case h_1 => simp only [VR] at hx hy; subst hx; subst hy; simp [Op.equalIn, run_underlying hu]
  case h_3 =>
    simp only [VR] at hx hy; subst hx; subst hy
    simp only [Op.equalIn, Sem.run_bind, run_underlying hu, Result.andThen_ok, Sem.run_pure, beq_toListBytes, bytes_toList]
  all_goals
    simp only [VR] at hx hy
    first
      | (subst hx; subst hy; simp [Op.equalIn, run_underlying hu]; done)
      | (obtain ⟨_, _, rfl⟩ := hy; subst hx; simp [Op.equalIn, run_underlying hu]; done)
      | (obtain ⟨_, _, rfl⟩ := hx; subst hy; simp [Op.equalIn, run_underlying hu]; done)
      | (obtain ⟨_, rfl, _⟩ := hy; subst hx; simp [Op.equalIn, run_underlying hu]; done)
      | (obtain ⟨_, rfl, _⟩ := hx; subst hy; simp [Op.equalIn, run_underlying hu]; done)
      | (obtain ⟨_, _, _, rfl, _⟩ := hy; subst hx; simp [Op.equalIn, run_underlying hu]; done)
      | (obtain ⟨_, _, _, rfl, _⟩ := hx; subst hy; simp [Op.equalIn, run_underlying hu]; done)
      | (obtain ⟨_, _, rfl, _⟩ := hy; subst hx; simp [Op.equalIn, run_underlying hu]; done)
      | (obtain ⟨_, _, rfl, _⟩ := hx; subst hy; simp [Op.equalIn, run_underlying hu]; done)

/-- What is asked of the program's tables. -/
def opsOk (N : Nat) (ops : Array Oper) : Bool := ops.toList.all fun o => match o.dst with | some d => decide (d < N) | none => true
def codeOk (N : Nat) : Code → Bool
  | .region _ ops _ => opsOk N ops
  | .seq a b => codeOk N a && codeOk N b
  | .cond _ a b => codeOk N a && codeOk N b
  | .block _ b => codeOk N b
  | .loop b => codeOk N b
  | .scope b => codeOk N b
  | _ => true
def funcOk (fn : Func) : Bool := (match fn.body with | some c => codeOk fn.ntmps c | none => true) && fn.name != "runtime.NumGoroutine"

structure COk (C : Cfg) : Prop where
  eqs : ∀ t ∈ C.eqs, C.P.eqGuardType C.P.depth t = false ∧ C.P.stoodInHeld t = false
  funcs : C.P.funcs.toList.all funcOk = true
  mixed : C.P.follows .mixedOrders = true
  inv : ∀ w w' : World, (∀ k, k < C.lo → w'.heap[k]? = w.heap[k]?) → C.I w → C.I w'

theorem eqF_sound {E : TypeId → V → V → Option Bool} {d : Nat} (hE : ∀ t x y r x' y', E t x y = some r → VR g x x' → VR g y y' → ∀ w, (Op.equalIn d t x' y').run C.P w = .ok r w) :
    ∀ (fs : List Field) {xs ys : List V} {r : Bool} {us vs : Array Value}, eqF C E fs xs ys = some r → VRs g xs us.toList → VRs g ys vs.toList → ∀ w, (Op.eqFields d us vs fs).run C.P w = .ok r w
  | [], xs, ys, r, us, vs, h, _, _, w => by simp only [eqF, Option.some.injEq] at h; subst h; simp [Op.eqFields]
  | f :: fs, xs, ys, r, us, vs, h, hx, hy, w => by
    simp only [eqF] at h
    simp only [Op.eqFields]
    by_cases hn : f.name = "_"
    · simp only [hn, if_true] at h
      simp only [hn, ne_eq, not_true, if_false]
      exact eqF_sound hE fs h hx hy w
    · simp only [hn, if_false] at h
      simp only [hn, ne_eq, not_false_eq_true, if_true, Sem.run_bind]
      cases ha : partV C f.type xs f.offset with
      | none => rw [ha] at h; cases h
      | some a =>
        cases hb : partV C f.type ys f.offset with
        | none => rw [ha, hb] at h; cases h
        | some b =>
          rw [ha, hb] at h
          simp only at h
          obtain ⟨a', h1, h2⟩ := partV_sound ha hx w
          obtain ⟨b', h3, h4⟩ := partV_sound hb hy w
          cases hr : E f.type a b with
          | none => rw [hr] at h; cases h
          | some q =>
            rw [hr] at h
            have h5 := hE f.type a b q a' b' hr h2 h4 w
            simp only [h1, Result.andThen_ok, h3, h5]
            cases q
            · simp only [Option.some.injEq] at h; subst h; simp
            · simp only at h; simp only [Bool.not_true, Bool.false_eq_true, if_false]; exact eqF_sound hE fs h hx hy w

theorem eqT_sound (hC : COk C) : ∀ (n : Nat) {t : TypeId} {x y : V} {r : Bool}, eqT C n t x y = some r → ∀ {x' y' : Value}, VR g x x' → VR g y y' → ∀ d, n ≤ d → ∀ w, (Op.equalIn d t x' y').run C.P w = .ok r w
  | 0, _, _, _, _, h, _, _, _, _, _, _, _ => by simp [eqT] at h
  | n + 1, t, x, y, r, h, x', y', hx, hy, d, hd, w => by
    obtain ⟨d, rfl⟩ : ∃ e, d = e + 1 := ⟨d - 1, by omega⟩
    simp only [eqT] at h
    cases hu : C.P.underlying t with
    | none => rw [hu] at h; cases h
    | some u =>
      rw [hu] at h
      by_cases hst : ∃ fs, u = .struct fs
      · obtain ⟨fs, rfl⟩ := hst
        simp only at h
        cases x <;> first | cases h | skip
        cases y <;> first | cases h | skip
        rename_i xs ys
        simp only at h
        split at h
        · rename_i hc
          simp only [VR] at hx hy
          obtain ⟨us, rfl, hx⟩ := hx
          obtain ⟨vs, rfl, hy⟩ := hy
          have hmem : t ∈ C.eqs := by simpa using hc
          have hf : C.P.fieldsOf t = fs := by unfold Program.fieldsOf; rw [hu]
          have hrun := run_equalIn_struct (P := C.P) w d t us vs (by rw [hu, hf]) (hC.eqs t hmem).2
          rw [hrun, hf]
          exact eqF_sound (fun t x y r x' y' he hx hy w => eqT_sound hC n he hx hy d (by omega) w) fs.toList h hx hy w
        · cases h
      · have h' : eqU u x y = some r := by
          cases u <;> first | exact h | exact absurd ⟨_, rfl⟩ hst
        exact eqU_sound h' hu hx hy d w
termination_by structural n => n
end
end Go.Vm
