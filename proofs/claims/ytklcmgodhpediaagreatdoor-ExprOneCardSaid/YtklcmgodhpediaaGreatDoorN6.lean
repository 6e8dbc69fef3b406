/- What an operation yields by the evaluator, it yields in the model: the rest of those that leave memory alone. -/
import Derived.Test.YtklcmgodhpediaaGreatDoorN5
import Derived.Laws.BytesArg
import Derived.Lib.ConvBytes
set_option linter.unusedSimpArgs false
set_option linter.unusedVariables false
namespace Go.Vm
open Go Go.RowKit

section
variable {C : Cfg} {g : Ghost} {w : World}

/-! ### build -/
theorem foldl_set_cells (off : Nat) : ∀ (l : List Value) (s : Nat) (cs : Array Value), off + s + l.length ≤ cs.size →
    ((l.zipIdx s).foldl (fun (cs : Array Value) (p : Value × Nat) => cs.setIfInBounds (off + p.2) p.1) cs).toList = cs.toList.take (off + s) ++ l ++ cs.toList.drop (off + s + l.length)
  | [], s, cs, _ => by simp
  | v :: l, s, cs, h => by
    simp only [List.length_cons] at h
    rw [List.zipIdx_cons, List.foldl_cons, foldl_set_cells off l (s + 1) _ (by simp; omega)]
    have e := list_seg_step cs.toList (off + s) v l (by simp; omega)
    simpa [Array.toList_setIfInBounds, Nat.add_assoc, Nat.add_comm 1] using e

inductive PartsR (g : Ghost) : List (Nat × V) → List (Nat × Value) → Prop
  | nil : PartsR g [] []
  | cons {i : Nat} {x : V} {v : Value} {ps : List (Nat × V)} {qs : List (Nat × Value)} : VR g x v → PartsR g ps qs → PartsR g ((i, x) :: ps) ((i, v) :: qs)

theorem PartsR.of {ρ : Operand → V} {ρ' : Operand → Value} (h : ∀ x, VR g (ρ x) (ρ' x)) : ∀ l : List (Nat × Operand), PartsR g (l.map fun (i, x) => (i, ρ x)) (l.map fun (i, x) => (i, ρ' x))
  | [] => .nil
  | (_, x) :: l => .cons (h x) (PartsR.of h l)

theorem cellsOf_size {v : V} {x : Value} {vs : List V} (h : VR g v x) (hc : cellsOf v = some vs) : x.cells.size = vs.length := by
  have := (cellsOf_VR h hc).length
  simpa using this.symm

theorem fillV_sound (place : Nat → Option (Nat × Nat)) : ∀ {ps : List (Nat × V)} {qs : List (Nat × Value)} {cs cs' : List V} {vs : Array Value}, fillV place cs ps = some cs' → PartsR g ps qs → VRs g cs vs.toList →
    ∃ vs', Instr.fill place vs qs = some vs' ∧ VRs g cs' vs'.toList
  | [], _, cs, cs', vs, h, .nil, hv => by simp only [fillV, Option.some.injEq] at h; subst h; exact ⟨vs, rfl, hv⟩
  | (i, x) :: ps, _, cs, cs', vs, h, .cons hx hr, hv => by
    rename_i y qs
    simp only [fillV] at h
    cases hp : place i with
    | none => rw [hp] at h; cases h
    | some os =>
      obtain ⟨off, size⟩ := os
      cases hc : cellsOf x with
      | none => rw [hp, hc] at h; cases h
      | some ls =>
        rw [hp, hc] at h
        simp only at h
        split at h
        · rename_i hle
          have hsz := cellsOf_size hx hc
          have hcl := hv.length
          simp only [Instr.fill, hp]
          have hnot : ¬ ((decide (y.cells.size ≠ size) || decide (off + y.cells.size > vs.size)) = true) := by
            simp only [Bool.or_eq_true, decide_eq_true_eq, not_or]
            simp at hcl
            omega
          rw [if_neg hnot]
          refine fillV_sound place h hr ?_
          have hcells := cellsOf_VR hx hc
          have hf := foldl_set_cells off y.cells.toList 0 vs (by simp at hcl ⊢; omega)
          have he : (Array.foldl (fun (cs : Array Value) (x : Value × Nat) => cs.setIfInBounds (off + x.2) x.1) vs y.cells.zipIdx).toList =
              vs.toList.take off ++ y.cells.toList ++ vs.toList.drop (off + y.cells.toList.length) := by
            rw [← Array.foldl_toList, Array.toList_zipIdx]; simpa using hf
          have := hv.putAt off hcells
          rw [← he] at this
          exact this
        · cases h

theorem buildV_sound {t : TypeId} {ps : List (Nat × V)} {v : V} (h : buildV C t ps = some v) {qs : Array (Nat × Value)} (hp : PartsR g ps qs.toList) (w : World) :
    ∃ v', (Instr.build t qs).run C.P w = .ok v' w ∧ VR g v v' := by
  unfold buildV at h
  split at h
  · rename_i fields zs hu hz
    split at h
    · rename_i places hpl
      obtain ⟨i, zv, h1, h2, h3⟩ := zeroV_info hz
      have hzr : VR g (V.agg zs) zv := by rw [h3]; exact ofVal_VR g zv
      obtain ⟨arr, rfl, hzr⟩ := hzr
      cases hf : fillV (places[·]?) zs ps with
      | none => rw [hf] at h; cases h
      | some cs =>
        rw [hf] at h; cases h
        obtain ⟨vs', h4, h5⟩ := fillV_sound (places[·]?) hf hp hzr
        refine ⟨_, run_build w t qs vs' ?_, _, rfl, h5⟩
        unfold Program.built
        have hpl' : fields.toList.mapM (fun f => (C.P.info? f.type).map fun i => (f.offset, i.size)) = some places := hpl
        simp only [h1, hu, h2, hpl', Value.cells]
        simpa using h4
    · cases h
  · rename_i n elem zs hu hz
    split at h
    · rename_i s hs
      obtain ⟨i, zv, h1, h2, h3⟩ := zeroV_info hz
      obtain ⟨ie, h6, h7⟩ := szOf_info hs
      have hzr : VR g (V.agg zs) zv := by rw [h3]; exact ofVal_VR g zv
      obtain ⟨arr, rfl, hzr⟩ := hzr
      cases hf : fillV (fun i => some (i * s, s)) zs ps with
      | none => rw [hf] at h; cases h
      | some cs =>
        rw [hf] at h; cases h
        obtain ⟨vs', h4, h5⟩ := fillV_sound _ hf hp hzr
        refine ⟨_, run_build w t qs vs' ?_, _, rfl, h5⟩
        unfold Program.built
        simp only [h1, hu, h2, h6, h7, Value.cells]
        exact h4
    · cases h
  · cases h

/-! ### Conversions -/
theorem toBytes_cons (n : Int) (xs : List V) : toBytes (.int .u8 n :: xs) = (toBytes xs).map (UInt8.ofNat n.toNat :: ·) := rfl

theorem toBytes_int {x : V} {xs : List V} {l : List UInt8} (h : toBytes (x :: xs) = some l) : ∃ n, x = .int .u8 n := by
  cases x with
  | int k n =>
    cases k with
    | u8 => exact ⟨n, rfl⟩
    | _ => simp [toBytes] at h
  | _ => simp [toBytes] at h

theorem toBytes_sound : ∀ {xs : List V} {l : List UInt8} {vs : List Value}, toBytes xs = some l → VRs g xs vs → ∃ ns : List Int, vs = ns.map (Value.int .u8) ∧ l = ns.map fun n => UInt8.ofNat n.toNat
  | [], l, vs, h, hv => by simp only [toBytes, Option.some.injEq] at h; simp only [VRs] at hv; subst h; subst hv; exact ⟨[], rfl, rfl⟩
  | x :: xs, l, vs, h, hv => by
    simp only [VRs] at hv
    obtain ⟨v, vs', rfl, _, hx, hv⟩ := hv
    obtain ⟨n, rfl⟩ := toBytes_int h
    rw [toBytes_cons] at h
    cases hr : toBytes xs with
    | none => rw [hr] at h; cases h
    | some l' =>
      rw [hr] at h; cases h
      simp only [VR] at hx; subst hx
      obtain ⟨ns, rfl, rfl⟩ := toBytes_sound hr hv
      exact ⟨n :: ns, rfl, rfl⟩

/-- Elements of one cell each: as cells. -/
theorem VRe.cells1 {xs : List V} {l : List UInt8} (h : toBytes xs = some l) : ∀ {vs : List Value} {S : Nat}, VRe g S xs vs → VRs g xs vs := by
  induction xs generalizing l with
  | nil => intro vs S hv; exact hv
  | cons x xs ih =>
    intro vs S hv
    obtain ⟨ch, vs', rfl, h1, h2, h3, h4⟩ := VRe_cons.1 hv
    obtain ⟨n, rfl⟩ := toBytes_int h
    rw [toBytes_cons] at h
    cases hr : toBytes xs with
    | none => rw [hr] at h; cases h
    | some l' =>
      obtain ⟨v, rfl, h5, h6⟩ := h3
      exact ⟨v, vs', rfl, h5, h6, ih hr h4⟩

theorem isU8_spec {t : TypeId} (h : isU8 C t = true) : C.P.underlying t = some (.int .u8) := by
  unfold isU8 at h
  split at h
  · assumption
  · cases h

theorem run_conv_bytes {src dst e : TypeId} (hs : C.P.underlying src = some (.slice e)) (he : C.P.underlying e = some (.int .u8)) (hd : C.P.underlying dst = some .string) {B o len cap : Nat} {ns : List Int} (hl : ns.length = len)
    (hr : Reads w B o (ns.map (Value.int .u8))) : (convert src dst (.slice (some ⟨B, o, none⟩) len cap)).run C.P w = .ok (.string ⟨(ns.map fun n => UInt8.ofNat n.toNat).toArray⟩) w := by
  rw [run_convert_bytes_string w src dst e _ _ _ hs he hd]
  have := run_loadCells_reads (C := C) hr
  rw [List.length_map, hl] at this
  rw [run_bytesToString w _ len cap ns this]
  congr 2
  have := foldl_push_bytes ns ByteArray.empty
  rw [this]
  simp

theorem convV_sound {st : St} {w0 : W0} {base : Nat} (hG : GR g st w0 base w) {src dst : TypeId} {x v : V} (h : convV C st.H src dst x = some v) {x' : Value} (hx : VR g x x') :
    ∃ v', (convert src dst x').run C.P w = .ok v' w ∧ VR g v v' := by
  unfold convV at h
  split at h
  · rename_i d k k' n hs hd
    simp only [VR] at hx; subst hx; cases h
    exact ⟨_, by simp only [convert, Sem.run_bind, run_underlying hs, run_underlying hd, Result.andThen_ok, Conv.intToInt, Sem.run_pure], rfl⟩
  · rename_i e tip xs hs hd
    split at h
    · rename_i hu
      cases hb : toBytes xs with
      | none => rw [hb] at h; cases h
      | some l =>
        rw [hb] at h; cases h
        obtain ⟨a, cap, vs, S, rfl, h2, h3, h4, h5⟩ := hx
        have hcs := h2.cells1 hb
        obtain ⟨ns, rfl, rfl⟩ := toBytes_sound hb hcs
        have hlen := hcs.length
        simp only [List.length_map] at hlen
        by_cases hne : xs = []
        · subst hne
          have hns : ns = [] := List.eq_nil_of_length_eq_zero (by simpa using hlen.symm)
          subst hns
          refine ⟨.string ⟨#[]⟩, ?_, rfl⟩
          rw [run_convert_bytes_string w src dst e _ _ _ hs (isU8_spec hu) hd]
          cases a with
          | none => rfl
          | some a => exact run_bytesToString w a 0 cap [] rfl
        · obtain ⟨B, o, rfl, hrow⟩ := h5 hne
          exact ⟨_, run_conv_bytes hs (isU8_spec hu) hd hlen.symm (hG.reads hrow), rfl⟩
    · cases h
  · rename_i e b off len cap hs hd
    split at h
    · rename_i cs hget
      split at h
      · rename_i hu
        cases hb : toBytes ((cs.drop off).take len) with
        | none => rw [hb] at h; cases h
        | some l =>
          rw [hb] at h; cases h
          obtain ⟨B, hκ, cap', rfl, _⟩ := hx
          obtain ⟨vs, h1, h2, _⟩ := hG.reads_obj hget hκ
          have h3 := (h1.drop off).take len
          obtain ⟨ns, h4, rfl⟩ := toBytes_sound hb h3
          have hl : ns.length = len := by
            have := congrArg List.length h4
            simp only [List.length_take, List.length_drop, List.length_map] at this
            have := h1.length
            omega
          refine ⟨_, run_conv_bytes hs (isU8_spec hu.1) hd hl (fun i v hi => ?_), rfl⟩
          rw [← h4, List.getElem?_take] at hi
          split at hi
          · rw [List.getElem?_drop] at hi; have := h2 _ _ hi; rwa [Nat.zero_add] at this
          · cases hi
      · cases h
    · cases h
  · rename_i d s hs hd
    simp only [VR] at hx; subst hx; cases h
    refine ⟨_, ?_, rfl⟩
    simp only [convert, Sem.run_bind, run_underlying hs, run_underlying hd, Result.andThen_ok]
    rfl
  · rename_i d k n hs hd
    split at h
    · rename_i hn
      simp only [VR] at hx; subst hx; cases h
      refine ⟨_, ?_, rfl⟩
      have hc : Utf8.encode n = ⟨[UInt8.ofNat n.toNat].toArray⟩ := by
        have hv : Utf8.valid n = true := by simp [Utf8.valid]; omega
        unfold Utf8.encode
        simp only [hv, if_true]
        rw [if_pos (by omega)]
      rw [← hc]
      cases d <;> simp only [convert, Sem.run_bind, run_underlying hs, run_underlying hd, Result.andThen_ok, Conv.intToString, Sem.run_pure]
    · cases h
  · cases h

/-! ### Slices, indexes -/
theorem run_sliceBound {v : V} {v' : Value} {i : Int} (hv : asIntV v = some i) (hr : VR g v v') {y : Nat} (h0 : 0 ≤ i) (h1 : i ≤ y) (code : BoundsCode) (w : World) : (Instr.sliceBound v' y code).run C.P w = .ok i.toNat w := by
  cases v <;> simp only [asIntV, Option.some.injEq, reduceCtorEq] at hv
  subst hv
  simp only [VR] at hr; subst hr
  simp only [Instr.sliceBound, asIntOf, Sem.run_bind, Sem.run_pure, Result.andThen_ok, h0, h1, and_self, if_true]

theorem boundsV_le {len : Nat} {lo hi : Option V} {l h : Nat} (hb : boundsV len lo hi = some (l, h)) : l ≤ h ∧ h ≤ len := by
  unfold boundsV at hb
  split at hb
  · split at hb
    · cases hb; omega
    · cases hb
  · cases hb

inductive OptR (g : Ghost) : Option V → Option Value → Prop
  | none : OptR g .none .none
  | some {v : V} {x : Value} : VR g v x → OptR g (.some v) (.some x)

theorem bndV_some {v : V} {o : Option Int} (h : bndV (some v) = some o) : ∃ i, asIntV v = some i ∧ o = some i := by
  have h' : (asIntV v).map some = some o := h
  cases ha : asIntV v with
  | none => rw [ha] at h'; cases h'
  | some i => rw [ha] at h'; cases h'; exact ⟨i, rfl, rfl⟩

theorem run_sliceBounds (isSlice : Bool) {len cap : Nat} (hc : len ≤ cap) {lo hi : Option V} {lo' hi' : Option Value} (hlo : OptR g lo lo') (hhi : OptR g hi hi') {l h : Nat} (hb : boundsV len lo hi = some (l, h)) (w : World) :
    (Instr.sliceBounds isSlice len cap lo' hi' none).run C.P w = .ok (l, h, cap) w := by
  unfold boundsV at hb
  split at hb
  · rename_i l0 h0 hl hh
    split at hb
    · rename_i hle
      cases hb
      cases hhi with
      | none =>
        simp only [bndV, Option.some.injEq] at hh; subst hh
        cases hlo with
        | none => simp only [bndV, Option.some.injEq] at hl; subst hl; simp [Instr.sliceBounds]
        | some hv =>
          obtain ⟨i, h1, rfl⟩ := bndV_some hl
          simp only [Option.getD_some, Option.getD_none] at hle ⊢
          have e2 := run_sliceBound (C := C) h1 hv (y := len) (by omega) (by omega) .sliceB w
          simp [Instr.sliceBounds, e2]
      | some hv0 =>
        obtain ⟨j, h0, rfl⟩ := bndV_some hh
        cases hlo with
        | none =>
          simp only [bndV, Option.some.injEq] at hl; subst hl
          simp only [Option.getD_some, Option.getD_none] at hle ⊢
          have e1 := run_sliceBound (C := C) h0 hv0 (y := cap) (by omega) (by omega) (if isSlice then .sliceAcap else .sliceAlen) w
          simp [Instr.sliceBounds, e1]
        | some hv =>
          obtain ⟨i, h1, rfl⟩ := bndV_some hl
          simp only [Option.getD_some] at hle ⊢
          have e1 := run_sliceBound (C := C) h0 hv0 (y := cap) (by omega) (by omega) (if isSlice then .sliceAcap else .sliceAlen) w
          have e2 := run_sliceBound (C := C) h1 hv (y := j.toNat) (by omega) (by omega) .sliceB w
          simp [Instr.sliceBounds, e1, e2]
    · cases hb
  · cases hb

theorem sliceV_sound {t : TypeId} {x v : V} {lo hi : Option V} (h : sliceV C t x lo hi = some v) {x' : Value} {lo' hi' : Option Value} (hx : VR g x x') (hlo : OptR g lo lo') (hhi : OptR g hi hi') (w : World) :
    ∃ v', (Instr.sliceAt t x' lo' hi' none).run C.P w = .ok v' w ∧ VR g v v' := by
  unfold sliceV at h
  split at h
  · rename_i s hu
    cases hb : boundsV s.length lo hi with
    | none => rw [hb] at h; cases h
    | some lh =>
      obtain ⟨l, hh⟩ := lh
      rw [hb] at h; cases h
      simp only [VR] at hx; subst hx
      have := run_sliceBounds (C := C) false (Nat.le_refl _) hlo hhi hb w
      refine ⟨.string ((⟨s.toArray⟩ : ByteArray).extract l hh), ?_, by simp only [VR]; rw [bytes_extract]⟩
      simp only [Instr.sliceAt, Instr.slice, Sem.run_bind, run_underlying hu, Result.andThen_ok, bytes_size, Option.isSome_none, Bool.false_eq_true, if_false, this]
      rfl
  · rename_i elem tip xs hu
    split at h
    · rename_i s l hh hs hb
      split at h
      · rename_i hok
        cases h
        obtain ⟨a, cap, vs, S, rfl, h2, h3, h4, h5⟩ := hx
        have hle := boundsV_le hb
        have := run_sliceBounds (C := C) true h4 hlo hhi hb w
        have hlen : ((xs.take hh).drop l).length = hh - l := by simp; omega
        refine ⟨.slice (if cap = l then a else a.map (·.add (l * s))) (hh - l) (cap - l), ?_, ?_⟩
        · simp only [Instr.sliceAt, Instr.slice, Sem.run_bind, run_underlying hu, Result.andThen_ok, this, run_szOf hs]
          rfl
        · refine ⟨_, cap - l, (vs.take (hh * S)).drop (l * S), S, by rw [hlen], (h2.take hh).drop l, ?_, by rw [hlen]; omega, fun hne => ?_⟩
          · split
            · rename_i hc
              have hne : xs ≠ [] := fun e => by subst e; simp at hc; omega
              have hS := h2.size hok.1 hne
              have hcl : ¬ cap = l := by omega
              rw [hlen]
              cases tip with
              | none => trivial
              | full => simp only [TipR] at h3 ⊢; omega
              | own b =>
                obtain ⟨B, o, rfl, h6, h7⟩ := h3
                refine ⟨B, o + l * s, by simp [hcl, add_addr], h6, ?_⟩
                subst hS
                rw [h7, Nat.add_assoc, ← Nat.add_mul, Nat.add_assoc, ← Nat.add_mul]
                rw [show l + (hh - l) = xs.length by omega, show l + (cap - l) = cap by omega]
            · trivial
          · have hlt : l < hh := by
              rcases Nat.lt_or_ge l hh with h | h
              · exact h
              · exact absurd (List.eq_nil_of_length_eq_zero (by rw [hlen]; omega)) hne
            have hxs : xs ≠ [] := fun e => by subst e; simp at hne
            obtain ⟨B, o, rfl, hrow⟩ := h5 hxs
            have hS := h2.size hok.1 hxs
            have hcl : ¬ cap = l := by omega
            refine ⟨B, o + l * s, by simp [hcl, add_addr], fun i v hi => ?_⟩
            subst hS
            rw [List.getElem?_drop, List.getElem?_take] at hi
            split at hi
            · rw [Nat.add_assoc]; exact hrow _ _ hi
            · cases hi
      · cases h
    · cases h
  · rename_i elem b off len cap hu
    split at h
    · rename_i s l hh hs hb
      split at h
      · obtain ⟨B, hκ, cap', rfl, hcap, hun⟩ := hx
        have hle := boundsV_le hb
        have := run_sliceBounds (C := C) true hcap hlo hhi hb w
        have hrun : (Instr.sliceAt t (.slice (some ⟨B, off, none⟩) len cap') lo' hi' none).run C.P w = .ok (.slice (if cap' = l then some ⟨B, off, none⟩ else some ⟨B, off + l * s, none⟩) (hh - l) (cap' - l)) w := by
          simp only [Instr.sliceAt, Instr.slice, Sem.run_bind, run_underlying hu, Result.andThen_ok, this, run_szOf hs, Option.map_some, add_addr]
          rfl
        split at h
        · rename_i hlt
          cases h
          rw [if_neg (by omega)] at hrun
          refine ⟨_, hrun, B, hκ, _, rfl, by omega, ?_⟩
          split
          · rename_i hlt2
            rcases hun with e | e | ⟨S, e, _⟩
            · exact .inl ⟨by rw [e.1], by omega⟩
            · rw [e] at hlt2; exact absurd hlt2 (Nat.lt_irrefl _)
            · rw [e] at hlt2; unfold ownC unk at hlt2; omega
          · exact .inr (.inl rfl)
        · rename_i hlt
          cases h
          exact ⟨_, hrun, _, cap' - l, [], 0, by rw [show hh - l = 0 by omega]; rfl, rfl, trivial, Nat.zero_le _, fun h => absurd rfl h⟩
      · cases h
    · cases h
  · rename_i n elem b off hu
    split at h
    · rename_i s l hh hs hb
      split at h
      · rename_i hsn
        obtain ⟨B, hκ, rfl⟩ := hx
        have hle := boundsV_le hb
        have := run_sliceBounds (C := C) false (Nat.le_refl _) hlo hhi hb w
        have hrun : (Instr.sliceAt t (.pointer (some ⟨B, off, none⟩)) lo' hi' none).run C.P w = .ok (.slice (some (if n = l then ⟨B, off, none⟩ else ⟨B, off + l * s, none⟩)) (hh - l) (n - l)) w := by
          simp only [Instr.sliceAt, Instr.sureAddr, Sem.run_bind, run_underlying hu, Result.andThen_ok, this, run_szOf hs, Sem.run_pure, add_addr]
        split at h
        · rename_i hlt
          cases h
          rw [if_neg (by omega)] at hrun
          exact ⟨_, hrun, B, hκ, _, rfl, by omega, .inl ⟨rfl, by omega⟩⟩
        · rename_i hlt
          cases h
          exact ⟨_, hrun, _, n - l, [], 0, by rw [show hh - l = 0 by omega]; rfl, rfl, trivial, Nat.zero_le _, fun h => absurd rfl h⟩
      · cases h
    · cases h
  · cases h


theorem run_sliceBounds3 {len cap : Nat} {l h m : Int} {lo' : Option Value} {lo : Option V} {hi mx : V} {hi' mx' : Value} (hlo : OptR g lo lo') {l0 : Option Int} (hl0 : bndV lo = some l0) (hl : l = l0.getD 0) (hhi : asIntV hi = some h) (hvh : VR g hi hi') (hmx : asIntV mx = some m) (hvm : VR g mx mx')
    (h0 : 0 ≤ l) (h1 : l ≤ h) (h2 : h ≤ m) (h3 : m ≤ cap) (w : World) : (Instr.sliceBounds true len cap lo' (some hi') (some mx')).run C.P w = .ok (l.toNat, h.toNat, m.toNat) w := by
  have e1 := run_sliceBound (C := C) hmx hvm (y := cap) (by omega) (by omega) .slice3Acap w
  have e2 := run_sliceBound (C := C) hhi hvh (y := m.toNat) (by omega) (by omega) .slice3B w
  cases hlo with
  | none =>
    simp only [bndV, Option.some.injEq] at hl0; subst hl0
    simp only [Option.getD_none] at hl; subst hl
    simp [Instr.sliceBounds, e1, e2]
  | some hv =>
    obtain ⟨i, h4, rfl⟩ := bndV_some hl0
    simp only [Option.getD_some] at hl; subst hl
    have e3 := run_sliceBound (C := C) h4 hv (y := h.toNat) (by omega) (by omega) .slice3C w
    simp [Instr.sliceBounds, e1, e2, e3]

theorem slice3V_sound {t : TypeId} {x v hi mx : V} {lo : Option V} (h : slice3V C t x lo hi mx = some v) {x' hi' mx' : Value} {lo' : Option Value} (hx : VR g x x') (hlo : OptR g lo lo') (hhi : VR g hi hi') (hmx : VR g mx mx') (w : World) :
    ∃ v', (Instr.sliceAt t x' lo' (some hi') (some mx')).run C.P w = .ok v' w ∧ VR g v v' := by
  unfold slice3V at h
  split at h
  · rename_i elem l0 hh m hu hl0 hhi0 hmx0
    split at h
    · rename_i s tip xs hs
      split at h
      · rename_i hok
        obtain ⟨hszk, hs0, h0, h1, h2, h3⟩ := hok
        cases h
        obtain ⟨a, cap, vs, S, rfl, k2, k3, k4, k5⟩ := hx
        have := run_sliceBounds3 (C := C) (len := xs.length) (cap := cap) hlo hl0 rfl hhi0 hhi hmx0 hmx h0 h1 h2 (by omega) w
        generalize l0.getD 0 = l at *
        have hlen : ((xs.take hh.toNat).drop l.toNat).length = hh.toNat - l.toNat := by simp; omega
        refine ⟨.slice (if m.toNat = l.toNat then a else a.map (·.add (l.toNat * s))) (hh.toNat - l.toNat) (m.toNat - l.toNat), ?_, ?_⟩
        · simp only [Instr.sliceAt, Instr.slice, Sem.run_bind, run_underlying hu, Result.andThen_ok, this, run_szOf hs]
          rfl
        · refine ⟨_, m.toNat - l.toNat, (vs.take (hh.toNat * S)).drop (l.toNat * S), S, by rw [hlen], (k2.take hh.toNat).drop l.toNat, ?_, by rw [hlen]; omega, fun hne => ?_⟩
          · split
            · rename_i e; subst e; rw [hlen]; rfl
            · trivial
          · have hlt : l.toNat < hh.toNat := by
              rcases Nat.lt_or_ge l.toNat hh.toNat with h | h
              · exact h
              · exact absurd (List.eq_nil_of_length_eq_zero (by rw [hlen]; omega)) hne
            have hxs : xs ≠ [] := fun e => by subst e; simp at hne
            obtain ⟨B, o, rfl, hrow⟩ := k5 hxs
            have hS := k2.size hszk hxs
            have hcl : ¬ m.toNat = l.toNat := by omega
            refine ⟨B, o + l.toNat * s, by simp [hcl, add_addr], fun i v hi => ?_⟩
            subst hS
            rw [List.getElem?_drop, List.getElem?_take] at hi
            split at hi
            · rw [Nat.add_assoc]; exact hrow _ _ hi
            · cases hi
      · cases h
    · rename_i s b off len cap0 hs
      split at h
      · rename_i hok
        obtain ⟨hs0, h0, h1, h2, h3, h4⟩ := hok
        obtain ⟨B, hκ, cap', rfl, hcap, hun⟩ := hx
        have := run_sliceBounds3 (C := C) (len := len) (cap := cap') hlo hl0 rfl hhi0 hhi hmx0 hmx h0 h1 h2 (by omega) w
        generalize l0.getD 0 = l at *
        have hrun : (Instr.sliceAt t (.slice (some ⟨B, off, none⟩) len cap') lo' (some hi') (some mx')).run C.P w = .ok (.slice (if m.toNat = l.toNat then some ⟨B, off, none⟩ else some ⟨B, off + l.toNat * s, none⟩) (hh.toNat - l.toNat) (m.toNat - l.toNat)) w := by
          simp only [Instr.sliceAt, Instr.slice, Sem.run_bind, run_underlying hu, Result.andThen_ok, this, run_szOf hs, Option.map_some, add_addr]
          rfl
        split at h
        · rename_i hlt
          cases h
          rw [if_neg (by omega)] at hrun
          exact ⟨_, hrun, B, hκ, _, rfl, by omega, .inl ⟨rfl, by omega⟩⟩
        · rename_i hlt
          cases h
          refine ⟨_, hrun, _, m.toNat - l.toNat, [], 0, by rw [show hh.toNat - l.toNat = 0 by omega]; rfl, rfl, ?_, Nat.zero_le _, fun h => absurd rfl h⟩
          split
          · rename_i e; show m.toNat - l.toNat = 0; omega
          · trivial
      · cases h
    · cases h
  · cases h

theorem row_sub {B o : Nat} {vs : List Value} (h : g.row B o vs) (k s : Nat) : g.row B (o + k) ((vs.drop k).take s) := fun i v hi => by
  rw [List.getElem?_take] at hi
  split at hi
  · rw [List.getElem?_drop] at hi; rw [Nat.add_assoc]; exact h _ _ hi
  · cases hi

theorem VC.cells {x : V} {ch : List Value} {cs : List V} (h : VC g x ch) (hc : cellsOf x = some cs) : VRs g cs ch := by
  cases x <;> simp only [cellsOf, Option.some.injEq, reduceCtorEq] at hc <;> subst hc <;> simp only [VC] at h <;> first
    | exact h
    | (obtain ⟨v, rfl, h1, h2⟩ := h; exact ⟨v, [], rfl, h1, h2, rfl⟩)

theorem indexAddrV_sound {t : TypeId} {x ix v : V} (h : indexAddrV C t x ix = some v) {x' ix' : Value} (hx : VR g x x') (hi : VR g ix ix') (w : World) :
    ∃ v', (Instr.indexAt t x' ix').run C.P w = .ok v' w ∧ VR g v v' := by
  unfold indexAddrV at h
  split at h
  · rename_i elem tip xs k i hu
    split at h
    · rename_i s hs
      split at h
      · rename_i hok
        split at h
        · rename_i y hy
          cases hc : cellsOf y with
          | none => rw [hc] at h; cases h
          | some cs =>
            rw [hc] at h; cases h
            obtain ⟨a, cap, vs, S, rfl, h2, h3, h4, h5⟩ := hx
            simp only [VR] at hi; subst hi
            have hlt : i.toNat < xs.length := (List.getElem?_eq_some_iff.1 hy).1
            have hne : xs ≠ [] := fun e => by subst e; simp at hlt
            obtain ⟨B, o, rfl, hrow⟩ := h5 hne
            have hS := h2.size hok.2.2 hne
            have hel := h2.get hy
            refine ⟨.pointer (some ⟨B, o + i.toNat * s, none⟩), ?_, B, o + i.toNat * s, _, rfl, row_sub hrow (i.toNat * s) s, ?_⟩
            · have : 0 ≤ i ∧ i < xs.length := ⟨hok.1, by omega⟩
              simp only [Instr.indexAt, asIntOf, Sem.run_bind, Sem.run_pure, run_underlying hu, Result.andThen_ok, this, and_self, if_true, run_szOf hs, add_addr]
            · subst hS; exact hel.2.cells hc
        · cases h
      · cases h
    · cases h
  · rename_i elem b off len cap k i hu
    split at h
    · rename_i s hs
      split at h
      · rename_i hok
        cases h
        obtain ⟨B, hκ, cap', rfl, hcap, _⟩ := hx
        simp only [VR] at hi; subst hi
        refine ⟨.pointer (some ⟨B, off + i.toNat * s, none⟩), ?_, B, hκ, rfl⟩
        have : 0 ≤ i ∧ i < len := ⟨hok.1, hok.2.1⟩
        simp only [Instr.indexAt, asIntOf, Sem.run_bind, Sem.run_pure, run_underlying hu, Result.andThen_ok, this, and_self, if_true, run_szOf hs, add_addr]
      · cases h
    · cases h
  · rename_i n elem b off k i hu
    split at h
    · rename_i s hs
      split at h
      · rename_i hok
        cases h
        obtain ⟨B, hκ, rfl⟩ := hx
        simp only [VR] at hi; subst hi
        refine ⟨.pointer (some ⟨B, off + i.toNat * s, none⟩), ?_, B, hκ, rfl⟩
        have : 0 ≤ i ∧ i < n := ⟨hok.1, hok.2.1⟩
        simp only [Instr.indexAt, asIntOf, Instr.sureAddr, Sem.run_bind, Sem.run_pure, run_underlying hu, Result.andThen_ok, this, and_self, if_true, run_szOf hs, add_addr]
      · cases h
    · cases h
  · rename_i n elem cs k i hu
    split at h
    · rename_i s hs
      split at h
      · rename_i hok
        cases h
        obtain ⟨B, o, vs, rfl, hrow, hv⟩ := hx
        simp only [VR] at hi; subst hi
        refine ⟨.pointer (some ⟨B, o + i.toNat * s, none⟩), ?_, B, o + i.toNat * s, _, rfl, row_sub hrow (i.toNat * s) s, (hv.drop _).take _⟩
        have : 0 ≤ i ∧ i < n := ⟨hok.1, hok.2.1⟩
        simp only [Instr.indexAt, asIntOf, Instr.sureAddr, Sem.run_bind, Sem.run_pure, run_underlying hu, Result.andThen_ok, this, and_self, if_true, run_szOf hs, add_addr]
      · cases h
    · cases h
  · cases h

theorem indexV_sound {t : TypeId} {x ix v : V} (h : indexV C t x ix = some v) {x' ix' : Value} (hx : VR g x x') (hi : VR g ix ix') (w : World) :
    ∃ v', (Instr.index t x' ix').run C.P w = .ok v' w ∧ VR g v v' := by
  unfold indexV at h
  split at h
  · rename_i s k i hu
    split at h
    · rename_i h0
      cases hb : s[i.toNat]? with
      | none => rw [hb] at h; cases h
      | some b =>
        rw [hb] at h; cases h
        simp only [VR] at hx hi; subst hx; subst hi
        have hlt := (List.getElem?_eq_some_iff.1 hb).1
        have : (⟨s.toArray⟩ : ByteArray)[i.toNat]? = some b := by
          rw [ByteArray.getElem?_lt' _ _ (show i.toNat < s.length from hlt)]
          have := (List.getElem?_eq_some_iff.1 hb).2
          rw [← this]; rfl
        refine ⟨.int .u8 b.toNat, ?_, rfl⟩
        simp only [Instr.index, asIntOf, Sem.run_bind, Sem.run_pure, run_underlying hu, Result.andThen_ok, h0, if_true, this]
    · cases h
  · rename_i n elem cs k i hu
    split at h
    · rename_i s hs
      split at h
      · rename_i hok
        obtain ⟨vs, rfl, hv⟩ := hx
        simp only [VR] at hi; subst hi
        obtain ⟨v', h1, h2⟩ := partV_sound h hv w
        refine ⟨v', ?_, h2⟩
        have : 0 ≤ i ∧ i < n := ⟨hok.1, hok.2.1⟩
        simp only [Instr.index, asIntOf, Sem.run_bind, Sem.run_pure, run_underlying hu, Result.andThen_ok, this, and_self, if_true, run_szOf hs, h1]
      · cases h
    · cases h
  · cases h

theorem fieldV_sound {t : TypeId} {x v : V} {i : Nat} (h : fieldV C t x i = some v) {x' : Value} (hx : VR g x x') (w : World) :
    ∃ v', (Instr.field t x' i).run C.P w = .ok v' w ∧ VR g v v' := by
  unfold fieldV at h
  split at h
  · rename_i fields cs hu
    split at h
    · rename_i f hf
      obtain ⟨vs, rfl, hv⟩ := hx
      obtain ⟨v', h1, h2⟩ := partV_sound h hv w
      refine ⟨v', ?_, h2⟩
      simp only [Instr.field, Sem.run_bind, run_underlying hu, Result.andThen_ok, hf, asAgg, Sem.run_pure, h1]
    · cases h
  · cases h

theorem fieldAddrV_sound {t : TypeId} {x v : V} {i : Nat} (h : fieldAddrV C t x i = some v) {x' : Value} (hx : VR g x x') (w : World) :
    ∃ v', (Instr.fieldAt t x' i).run C.P w = .ok v' w ∧ VR g v v' := by
  unfold fieldAddrV at h
  split at h
  · rename_i fields hu
    split at h
    · rename_i f hf
      split at h
      · rename_i s b off hs
        split at h
        · rename_i h0
          cases h
          obtain ⟨B, hκ, rfl⟩ := hx
          refine ⟨.pointer (some ⟨B, off + f.offset, none⟩), ?_, B, hκ, rfl⟩
          have : ¬ s = 0 := by omega
          simp only [Instr.fieldAt, Sem.run_bind, run_underlying hu, Result.andThen_ok, hf, Instr.sureAddr, Sem.run_pure, fieldPlace, run_szOf hs, this, if_false, add_addr]
        · cases h
      · rename_i s cs hs
        split at h
        · rename_i h0
          cases h
          obtain ⟨B, o, vs, rfl, hrow, hv⟩ := hx
          refine ⟨.pointer (some ⟨B, o + f.offset, none⟩), ?_, B, o + f.offset, _, rfl, row_sub hrow f.offset s, (hv.drop _).take _⟩
          have : ¬ s = 0 := by omega
          simp only [Instr.fieldAt, Sem.run_bind, run_underlying hu, Result.andThen_ok, hf, Instr.sureAddr, Sem.run_pure, fieldPlace, run_szOf hs, this, if_false, add_addr]
        · cases h
      · cases h
    · cases h
  · cases h

theorem loadV_sound {st : St} {w0 : W0} {base : Nat} (hG : GR g st w0 base w) {t : TypeId} {a v : V} (h : loadV C st.H t a = some v) {a' : Value} (ha : VR g a a') :
    ∃ v', (Instr.loadAt t a').run C.P w = .ok v' w ∧ VR g v v' := by
  unfold loadV at h
  split at h
  · rename_i cs
    obtain ⟨B, o, vs, rfl, hrow, hv⟩ := ha
    obtain ⟨v', h1, h2⟩ := loadVar_sound h hv (hG.reads hrow)
    rw [Nat.add_zero] at h1
    exact ⟨v', by simpa only [Instr.loadAt, Instr.sureAddr, Sem.run_bind, Sem.run_pure, Result.andThen_ok] using h1, h2⟩
  · rename_i b off
    split at h
    · rename_i cs hget
      obtain ⟨B, hκ, rfl⟩ := ha
      obtain ⟨vs, h3, h4, _⟩ := hG.reads_obj hget hκ
      obtain ⟨v', h1, h2⟩ := loadVar_sound h h3 h4
      rw [Nat.zero_add] at h1
      exact ⟨v', by simpa only [Instr.loadAt, Instr.sureAddr, Sem.run_bind, Sem.run_pure, Result.andThen_ok] using h1, h2⟩
    · cases h
  · cases h

/-! ### Maps -/
theorem keyT_check {d : TypeDesc} {k : V} (h : keyT d k = true) {k' : Value} (hk : VR g k k') {t : TypeId} (hu : C.P.underlying t = some d) (e : Bool) (n : Nat) (w : World) :
    (Instr.checkKey e (n + 1) t k').run C.P w = .ok () w := by
  unfold keyT at h
  split at h
  · simp only [VR] at hk; subst hk; simp [Instr.checkKey, run_underlying hu]
  · simp only [VR] at hk; subst hk; simp [Instr.checkKey, run_underlying hu]
  · cases h

theorem eqCell_now {d : TypeDesc} {k x : V} {r : Bool} (h : keyT d k = true) (he : eqCell k x = some r) {k' x' : Value} (hk : VR g k k') (hx : VR g x x') : Instr.sameNow d k' x' = some r := by
  unfold keyT at h
  split at h
  · cases x <;> simp only [eqCell, reduceCtorEq] at he
    split at he
    · rename_i hkk; cases he; simp only [VR] at hk hx; subst hk; subst hx; subst hkk; simp [Instr.sameNow]
    · cases he
  · cases x <;> simp only [eqCell, reduceCtorEq, Option.some.injEq] at he
    subst he; simp only [VR] at hk hx; subst hk; subst hx
    simp only [Instr.sameNow, Option.some.injEq]
    rw [beq_toListBytes, bytes_toList, bytes_toList]
  · cases h

theorem findV_sound {d : TypeDesc} {k : V} (hT : keyT d k = true) {k' : Value} (hk : VR g k k') : ∀ {es : List (V × V)} {es' : List MapEntry} {r : Option V}, findV k es = some r → EsR g es es' → ∀ i : Nat,
    match r with
    | none => Instr.findNow d k' es' i = some none
    | some v => ∃ j v', Instr.findNow d k' es' i = some (some (j, v')) ∧ VR g v v'
  | [], _, r, h, .nil, i => by simp only [findV, Option.some.injEq] at h; subst h; rfl
  | (k2, v2) :: es, _, r, h, .cons hk2 hv2 hr, i => by
    rename_i e es'
    simp only [findV] at h
    cases he : eqCell k k2 with
    | none => rw [he] at h; cases h
    | some q =>
      rw [he] at h
      have hn := eqCell_now hT he hk hk2
      cases q
      · simp only at h
        have := findV_sound hT hk h hr (i + 1)
        cases r with
        | none => simp only [Instr.findNow, hn]; exact this
        | some v => simp only [Instr.findNow, hn]; exact this
      · simp only [Option.some.injEq] at h; subst h
        exact ⟨i, e.val, by simp only [Instr.findNow, hn], hv2⟩

theorem lookupV_sound {st : St} {w0 : W0} {base : Nat} (hG : GR g st w0 base w) {t : TypeId} {x ix v : V} {ok : Bool} (h : lookupV C st.H t x ix ok = some v) {x' ix' : Value} (hx : VR g x x') (hi : VR g ix ix') :
    ∃ v', (Instr.lookup t x' ix' ok).run C.P w = .ok v' w ∧ VR g v v' := by
  unfold lookupV at h
  split at h
  · rename_i key elem hu
    split at h
    · rename_i kd z hkd hz
      split at h
      · rename_i hT
        obtain ⟨zv, hzr, hz2⟩ := run_zeroV hz w
        have hzv : VR g z zv := by rw [hz2]; exact ofVal_VR g zv
        have main : ∀ (es : List (V × V)) (es' : Array MapEntry) (r : Option V), findV ix es = some r → EsR g es es'.toList →
            (Instr.checkKey es'.isEmpty 10000 key ix').run C.P w = .ok () w ∧
              ((r = none ∧ (Instr.findKey key ix' es'.toList).run C.P w = .ok none w) ∨ ∃ u j u', r = some u ∧ (Instr.findKey key ix' es'.toList).run C.P w = .ok (some (j, u')) w ∧ VR g u u') := by
          intro es es' r hf hes
          refine ⟨keyT_check (C := C) hT hi hkd es'.isEmpty 9999 w, ?_⟩
          have hfn := findV_sound hT hi hf hes 0
          cases r with
          | none =>
            simp only at hfn
            exact .inl ⟨rfl, by simp only [Instr.findKey, Sem.run_bind, run_underlying hkd, Result.andThen_ok, hfn, Sem.run_pure]⟩
          | some u =>
            obtain ⟨j, u', h1, h2⟩ := hfn
            exact .inr ⟨u, j, u', rfl, by simp only [Instr.findKey, Sem.run_bind, run_underlying hkd, Result.andThen_ok, h1, Sem.run_pure], h2⟩
        cases x <;> simp only [reduceCtorEq] at h
        case nilmap =>
          simp only [VR] at hx; subst hx
          obtain ⟨h1, h2⟩ := main [] #[] none rfl .nil
          rcases h2 with ⟨_, h2⟩ | ⟨u, j, u', h0, _⟩
          · simp only [Option.some.injEq] at h
            subst h
            have h2' : (Instr.findKey key ix' []).run C.P w = .ok none w := h2
            simp only [Instr.lookup, Sem.run_bind, run_underlying hu, Result.andThen_ok, Sem.run_pure, h1, h2', hzr]
            cases ok
            · exact ⟨_, rfl, hzv⟩
            · exact ⟨_, rfl, _, rfl, zv, _, rfl, hzv, _, _, rfl, rfl, rfl⟩
          · cases h0
        case map b =>
          obtain ⟨B, hκ, rfl⟩ := hx
          cases hget : hgetM st.H b with
          | none => rw [hget] at h; cases h
          | some es =>
            rw [hget] at h
            dsimp only at h
            obtain ⟨_, es', ck, _, hb, hes, _⟩ := hG.map_obj hget hκ
            cases hf : findV ix es with
            | none => rw [hf] at h; cases h
            | some r =>
              rw [hf] at h
              obtain ⟨h1, h2⟩ := main es es' r hf hes
              have hgo : (getObj B).run C.P w = .ok (.map es' ck) w := by simp [getObj, Sem.run, hb]
              rcases h2 with ⟨rfl, h2⟩ | ⟨u, j, u', rfl, h2, h3⟩
              · simp only [Option.some.injEq] at h
                subst h
                simp only [Instr.lookup, Sem.run_bind, run_underlying hu, Result.andThen_ok, hgo, Sem.run_pure, h1, h2, hzr]
                cases ok
                · exact ⟨_, rfl, hzv⟩
                · exact ⟨_, rfl, _, rfl, zv, _, rfl, hzv, _, _, rfl, rfl, rfl⟩
              · simp only [Option.some.injEq] at h
                subst h
                simp only [Instr.lookup, Sem.run_bind, run_underlying hu, Result.andThen_ok, hgo, Sem.run_pure, h1, h2]
                cases ok
                · exact ⟨_, rfl, h3⟩
                · exact ⟨_, rfl, _, rfl, u', _, rfl, h3, _, _, rfl, rfl, rfl⟩
      · cases h
    · cases h
  · cases h

theorem lenV_sound {st : St} {w0 : W0} {base : Nat} (hG : GR g st w0 base w) {t : TypeId} {x v : V} (h : lenV C st.H t x = some v) {x' : Value} (hx : VR g x x') (ty : TypeId) :
    ∃ v', (Builtin.len_ #[t] ty #[x']).run C.P w = .ok v' w ∧ VR g v v' := by
  unfold lenV at h
  split at h
  · rename_i s hu; cases h; simp only [VR] at hx; subst hx
    exact ⟨goInt s.length, by simp only [Builtin.len_, List.getElem?_toArray, List.getElem?_cons_zero, Sem.run_bind, run_underlying hu, Result.andThen_ok, Sem.run_pure]; rfl, rfl⟩
  · rename_i e tip xs hu; cases h; obtain ⟨a, cap, vs, S, rfl, _⟩ := hx
    exact ⟨goInt _, by simp only [Builtin.len_, List.getElem?_toArray, List.getElem?_cons_zero, Sem.run_bind, run_underlying hu, Result.andThen_ok, Sem.run_pure], rfl⟩
  · rename_i e b off len cap hu; cases h; obtain ⟨B, hκ, cap', rfl, _⟩ := hx
    exact ⟨goInt _, by simp only [Builtin.len_, List.getElem?_toArray, List.getElem?_cons_zero, Sem.run_bind, run_underlying hu, Result.andThen_ok, Sem.run_pure], rfl⟩
  · rename_i n e hu; cases h
    exact ⟨goInt _, by simp only [Builtin.len_, List.getElem?_toArray, List.getElem?_cons_zero, Sem.run_bind, run_underlying hu, Result.andThen_ok, Sem.run_pure], rfl⟩
  · rename_i k e hu; cases h; simp only [VR] at hx; subst hx
    exact ⟨goInt _, by simp only [Builtin.len_, List.getElem?_toArray, List.getElem?_cons_zero, Sem.run_bind, run_underlying hu, Result.andThen_ok, Sem.run_pure], rfl⟩
  · rename_i k e b hu
    split at h
    · rename_i es hget
      cases h
      obtain ⟨B, hκ, rfl⟩ := hx
      obtain ⟨_, es', ck, _, hb, hes, _⟩ := hG.map_obj hget hκ
      have hgo : (getObj B).run C.P w = .ok (.map es' ck) w := by simp [getObj, Sem.run, hb]
      have hl := hes.length
      simp only [Array.length_toList] at hl
      exact ⟨goInt es'.size, by simp only [Builtin.len_, List.getElem?_toArray, List.getElem?_cons_zero, Sem.run_bind, run_underlying hu, Result.andThen_ok, hgo, Sem.run_pure], by simp only [VR, goInt, hl]⟩
    · cases h
  · cases h
end
end Go.Vm
