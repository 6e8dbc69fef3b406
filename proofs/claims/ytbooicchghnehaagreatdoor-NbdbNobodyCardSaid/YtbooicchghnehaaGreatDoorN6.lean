/- What an operation yields by the evaluator, it yields in the model: the rest of those that leave memory alone. -/
import Derived.Test.YtbooicchghnehaaGreatDoorN1
import Derived.Laws.BytesArg
import Derived.Lib.ConvBytes
import Derived.Deep.AppendSrc
set_option linter.unusedSimpArgs false
set_option linter.unusedVariables false
namespace Go.Vm
open Go Go.RowKit

section
variable {C : Cfg} {g : Ghost} {w : World}

/-! ### build -/
theorem foldl_set_cells (off : Nat) : ∀ (l : List Value) (s : Nat) (cs : Array Value), off + s + l.length ≤ cs.size →
    ((l.zipIdx s).foldl (fun (cs : Array Value) (p : Value × Nat) => cs.setIfInBounds (off + p.2) p.1) cs).toList = cs.toList.take (off + s) ++ l ++ cs.toList.drop (off + s + l.length)
  | [], s, cs, _ => by simp
  | v :: l, s, cs, h => by
    simp only [List.length_cons] at h
    rw [List.zipIdx_cons, List.foldl_cons, foldl_set_cells off l (s + 1) _ (by simp; omega)]
    have e := list_seg_step cs.toList (off + s) v l (by simp; omega)
    simpa [Array.toList_setIfInBounds, Nat.add_assoc, Nat.add_comm 1] using e

inductive PartsR (g : Ghost) : List (Nat × V) → List (Nat × Value) → Prop
  | nil : PartsR g [] []
  | cons {i : Nat} {x : V} {v : Value} {ps : List (Nat × V)} {qs : List (Nat × Value)} : VR g x v → PartsR g ps qs → PartsR g ((i, x) :: ps) ((i, v) :: qs)

theorem PartsR.of {ρ : Operand → V} {ρ' : Operand → Value} (h : ∀ x, VR g (ρ x) (ρ' x)) : ∀ l : List (Nat × Operand), PartsR g (l.map fun (i, x) => (i, ρ x)) (l.map fun (i, x) => (i, ρ' x))
  | [] => .nil
  | (_, x) :: l => .cons (h x) (PartsR.of h l)

theorem cellsOf_size {v : V} {x : Value} {vs : List V} (h : VR g v x) (hc : cellsOf v = some vs) : x.cells.size = vs.length := by
  have := (cellsOf_VR h hc).length
  simpa using this.symm

theorem fillV_sound (place : Nat → Option (Nat × Nat)) : ∀ {ps : List (Nat × V)} {qs : List (Nat × Value)} {cs cs' : List V} {vs : Array Value}, fillV place cs ps = some cs' → PartsR g ps qs → VRs g cs vs.toList →
    ∃ vs', Instr.fill place vs qs = some vs' ∧ VRs g cs' vs'.toList
  | [], _, cs, cs', vs, h, .nil, hv => by simp only [fillV, Option.some.injEq] at h; subst h; exact ⟨vs, rfl, hv⟩
  | (i, x) :: ps, _, cs, cs', vs, h, .cons hx hr, hv => by
    rename_i y qs
    simp only [fillV] at h
    cases hp : place i with
    | none => rw [hp] at h; cases h
    | some os =>
      obtain ⟨off, size⟩ := os
      cases hc : cellsOf x with
      | none => rw [hp, hc] at h; cases h
      | some ls =>
        rw [hp, hc] at h
        simp only at h
        split at h
        · rename_i hle
          have hsz := cellsOf_size hx hc
          have hcl := hv.length
          simp only [Instr.fill, hp]
          have hnot : ¬ ((decide (y.cells.size ≠ size) || decide (off + y.cells.size > vs.size)) = true) := by
            simp only [Bool.or_eq_true, decide_eq_true_eq, not_or]
            simp at hcl
            omega
          rw [if_neg hnot]
          refine fillV_sound place h hr ?_
          have hcells := cellsOf_VR hx hc
          have hf := foldl_set_cells off y.cells.toList 0 vs (by simp at hcl ⊢; omega)
          have he : (Array.foldl (fun (cs : Array Value) (x : Value × Nat) => cs.setIfInBounds (off + x.2) x.1) vs y.cells.zipIdx).toList =
              vs.toList.take off ++ y.cells.toList ++ vs.toList.drop (off + y.cells.toList.length) := by
            rw [← Array.foldl_toList, Array.toList_zipIdx]; simpa using hf
          have := hv.putAt off hcells
          rw [← he] at this
          exact this
        · cases h

theorem buildV_sound {t : TypeId} {ps : List (Nat × V)} {v : V} (h : buildV C t ps = some v) {qs : Array (Nat × Value)} (hp : PartsR g ps qs.toList) (w : World) :
    ∃ v', (Instr.build t qs).run C.P w = .ok v' w ∧ VR g v v' := by
  unfold buildV at h
  split at h
  · rename_i fields zs hu hz
    split at h
    · rename_i places hpl
      obtain ⟨i, zv, h1, h2, h3⟩ := zeroV_info hz
      have hzr : VR g (V.agg zs) zv := by rw [h3]; exact ofVal_VR g zv
      obtain ⟨arr, rfl, hzr⟩ := hzr
      cases hf : fillV (places[·]?) zs ps with
      | none => rw [hf] at h; cases h
      | some cs =>
        rw [hf] at h; cases h
        obtain ⟨vs', h4, h5⟩ := fillV_sound (places[·]?) hf hp hzr
        refine ⟨_, run_build w t qs vs' ?_, _, rfl, h5⟩
        unfold Program.built
        have hpl' : fields.toList.mapM (fun f => (C.P.info? f.type).map fun i => (f.offset, i.size)) = some places := hpl
        simp only [h1, hu, h2, hpl', Value.cells]
        simpa using h4
    · cases h
  · rename_i n elem zs hu hz
    split at h
    · rename_i s hs
      obtain ⟨i, zv, h1, h2, h3⟩ := zeroV_info hz
      obtain ⟨ie, h6, h7⟩ := szOf_info hs
      have hzr : VR g (V.agg zs) zv := by rw [h3]; exact ofVal_VR g zv
      obtain ⟨arr, rfl, hzr⟩ := hzr
      cases hf : fillV (fun i => some (i * s, s)) zs ps with
      | none => rw [hf] at h; cases h
      | some cs =>
        rw [hf] at h; cases h
        obtain ⟨vs', h4, h5⟩ := fillV_sound _ hf hp hzr
        refine ⟨_, run_build w t qs vs' ?_, _, rfl, h5⟩
        unfold Program.built
        simp only [h1, hu, h2, h6, h7, Value.cells]
        exact h4
    · cases h
  · cases h

/-! ### Conversions -/
theorem toBytes_cons (n : Int) (xs : List V) : toBytes (.int .u8 n :: xs) = (toBytes xs).map (UInt8.ofNat n.toNat :: ·) := rfl

theorem toBytes_int {x : V} {xs : List V} {l : List UInt8} (h : toBytes (x :: xs) = some l) : ∃ n, x = .int .u8 n := by
  cases x with
  | int k n =>
    cases k with
    | u8 => exact ⟨n, rfl⟩
    | _ => simp [toBytes] at h
  | _ => simp [toBytes] at h

theorem toBytes_sound : ∀ {xs : List V} {l : List UInt8} {vs : List Value}, toBytes xs = some l → VRs g xs vs → ∃ ns : List Int, vs = ns.map (Value.int .u8) ∧ l = ns.map fun n => UInt8.ofNat n.toNat
  | [], l, vs, h, hv => by simp only [toBytes, Option.some.injEq] at h; simp only [VRs] at hv; subst h; subst hv; exact ⟨[], rfl, rfl⟩
  | x :: xs, l, vs, h, hv => by
    simp only [VRs] at hv
    obtain ⟨v, vs', rfl, _, hx, hv⟩ := hv
    obtain ⟨n, rfl⟩ := toBytes_int h
    rw [toBytes_cons] at h
    cases hr : toBytes xs with
    | none => rw [hr] at h; cases h
    | some l' =>
      rw [hr] at h; cases h
      simp only [VR] at hx; subst hx
      obtain ⟨ns, rfl, rfl⟩ := toBytes_sound hr hv
      exact ⟨n :: ns, rfl, rfl⟩

/-- Elements of one cell each: as cells. -/
theorem VRe.cells1 {xs : List V} {l : List UInt8} (h : toBytes xs = some l) : ∀ {vs : List Value} {S : Nat}, VRe g S xs vs → VRs g xs vs := by
  induction xs generalizing l with
  | nil => intro vs S hv; exact hv
  | cons x xs ih =>
    intro vs S hv
    obtain ⟨ch, vs', rfl, h1, h2, h3, h4⟩ := VRe_cons.1 hv
    obtain ⟨n, rfl⟩ := toBytes_int h
    rw [toBytes_cons] at h
    cases hr : toBytes xs with
    | none => rw [hr] at h; cases h
    | some l' =>
      obtain ⟨v, rfl, h5, h6⟩ := h3
      exact ⟨v, vs', rfl, h5, h6, ih hr h4⟩

theorem isU8_spec {t : TypeId} (h : isU8 C t = true) : C.P.underlying t = some (.int .u8) := by
  unfold isU8 at h
  split at h
  · assumption
  · cases h

theorem run_conv_bytes {src dst e : TypeId} (hs : C.P.underlying src = some (.slice e)) (he : C.P.underlying e = some (.int .u8)) (hd : C.P.underlying dst = some .string) {B o len cap : Nat} {ns : List Int} (hl : ns.length = len)
    (hr : Reads w B o (ns.map (Value.int .u8))) : (convert src dst (.slice (some ⟨B, o, none⟩) len cap)).run C.P w = .ok (.string ⟨(ns.map fun n => UInt8.ofNat n.toNat).toArray⟩) w := by
  rw [run_convert_bytes_string w src dst e _ _ _ hs he hd]
  have := run_loadCells_reads (C := C) hr
  rw [List.length_map, hl] at this
  rw [run_bytesToString w _ len cap ns this]
  congr 2
  have := foldl_push_bytes ns ByteArray.empty
  rw [this]
  simp

theorem convV_sound {st : St} {w0 : W0} {base : Nat} (hG : GR g st w0 base w) {src dst : TypeId} {x v : V} (h : convV C st.H src dst x = some v) {x' : Value} (hx : VR g x x') :
    ∃ v', (convert src dst x').run C.P w = .ok v' w ∧ VR g v v' := by
  unfold convV at h
  split at h
  · rename_i d k k' n hs hd
    simp only [VR] at hx; subst hx; cases h
    exact ⟨_, by simp only [convert, Sem.run_bind, run_underlying hs, run_underlying hd, Result.andThen_ok, Conv.intToInt, Sem.run_pure], rfl⟩
  · rename_i e tip xs hs hd
    split at h
    · rename_i hu
      cases hb : toBytes xs with
      | none => rw [hb] at h; cases h
      | some l =>
        rw [hb] at h; cases h
        obtain ⟨a, cap, vs, S, rfl, h2, h3, h4, h5⟩ := hx
        have hcs := h2.cells1 hb
        obtain ⟨ns, rfl, rfl⟩ := toBytes_sound hb hcs
        have hlen := hcs.length
        simp only [List.length_map] at hlen
        by_cases hne : xs = []
        · subst hne
          have hns : ns = [] := List.eq_nil_of_length_eq_zero (by simpa using hlen.symm)
          subst hns
          refine ⟨.string ⟨#[]⟩, ?_, rfl⟩
          rw [run_convert_bytes_string w src dst e _ _ _ hs (isU8_spec hu) hd]
          cases a with
          | none => rfl
          | some a => exact run_bytesToString w a 0 cap [] rfl
        · obtain ⟨B, o, rfl, hrow⟩ := h5 hne
          exact ⟨_, run_conv_bytes hs (isU8_spec hu) hd hlen.symm (hG.reads hrow), rfl⟩
    · cases h
  · rename_i e b off len cap hs hd
    split at h
    · rename_i cs hget
      split at h
      · rename_i hu
        cases hb : toBytes ((cs.drop off).take len) with
        | none => rw [hb] at h; cases h
        | some l =>
          rw [hb] at h; cases h
          obtain ⟨B, hκ, cap', rfl, _⟩ := hx
          obtain ⟨vs, h1, h2, _⟩ := hG.reads_obj hget hκ
          have h3 := (h1.drop off).take len
          obtain ⟨ns, h4, rfl⟩ := toBytes_sound hb h3
          have hl : ns.length = len := by
            have := congrArg List.length h4
            simp only [List.length_take, List.length_drop, List.length_map] at this
            have := h1.length
            omega
          refine ⟨_, run_conv_bytes hs (isU8_spec hu.1) hd hl (fun i v hi => ?_), rfl⟩
          rw [← h4, List.getElem?_take] at hi
          split at hi
          · rw [List.getElem?_drop] at hi; have := h2 _ _ hi; rwa [Nat.zero_add] at this
          · cases hi
      · cases h
    · cases h
  · rename_i d s hs hd
    simp only [VR] at hx; subst hx; cases h
    refine ⟨_, ?_, rfl⟩
    simp only [convert, Sem.run_bind, run_underlying hs, run_underlying hd, Result.andThen_ok]
    rfl
  · rename_i d k n hs hd
    split at h
    · rename_i hn
      simp only [VR] at hx; subst hx; cases h
      refine ⟨_, ?_, rfl⟩
      have hc : Utf8.encode n = ⟨[UInt8.ofNat n.toNat].toArray⟩ := by
        have hv : Utf8.valid n = true := by simp [Utf8.valid]; omega
        unfold Utf8.encode
        simp only [hv, if_true]
        rw [if_pos (by omega)]
      rw [← hc]
      cases d <;> simp only [convert, Sem.run_bind, run_underlying hs, run_underlying hd, Result.andThen_ok, Conv.intToString, Sem.run_pure]
    · cases h
  · cases h

/-! ### Slices, indexes -/
theorem run_sliceBound {v : V} {v' : Value} {i : Int} (hv : asIntV v = some i) (hr : VR g v v') {y : Nat} (h0 : 0 ≤ i) (h1 : i ≤ y) (code : BoundsCode) (w : World) : (Instr.sliceBound v' y code).run C.P w = .ok i.toNat w := by
  cases v <;> simp only [asIntV, Option.some.injEq, reduceCtorEq] at hv
  subst hv
  simp only [VR] at hr; subst hr
  simp only [Instr.sliceBound, asIntOf, Sem.run_bind, Sem.run_pure, Result.andThen_ok, h0, h1, and_self, if_true]

theorem boundsV_le {len : Nat} {lo hi : Option V} {l h : Nat} (hb : boundsV len lo hi = some (l, h)) : l ≤ h ∧ h ≤ len := by
  unfold boundsV at hb
  split at hb
  · split at hb
    · cases hb; omega
    · cases hb
  · cases hb

inductive OptR (g : Ghost) : Option V → Option Value → Prop
  | none : OptR g .none .none
  | some {v : V} {x : Value} : VR g v x → OptR g (.some v) (.some x)

theorem bndV_some {v : V} {o : Option Int} (h : bndV (some v) = some o) : ∃ i, asIntV v = some i ∧ o = some i := by
  have h' : (asIntV v).map some = some o := h
  cases ha : asIntV v with
  | none => rw [ha] at h'; cases h'
  | some i => rw [ha] at h'; cases h'; exact ⟨i, rfl, rfl⟩

theorem run_sliceBounds (isSlice : Bool) {len cap : Nat} (hc : len ≤ cap) {lo hi : Option V} {lo' hi' : Option Value} (hlo : OptR g lo lo') (hhi : OptR g hi hi') {l h : Nat} (hb : boundsV len lo hi = some (l, h)) (w : World) :
    (Instr.sliceBounds isSlice len cap lo' hi' none).run C.P w = .ok (l, h, cap) w := by
  unfold boundsV at hb
  split at hb
  · rename_i l0 h0 hl hh
    split at hb
    · rename_i hle
      cases hb
      cases hhi with
      | none =>
        simp only [bndV, Option.some.injEq] at hh; subst hh
        cases hlo with
        | none => simp only [bndV, Option.some.injEq] at hl; subst hl; simp [Instr.sliceBounds]
        | some hv =>
          obtain ⟨i, h1, rfl⟩ := bndV_some hl
          simp only [Option.getD_some, Option.getD_none] at hle ⊢
          have e2 := run_sliceBound (C := C) h1 hv (y := len) (by omega) (by omega) .sliceB w
          simp [Instr.sliceBounds, e2]
      | some hv0 =>
        obtain ⟨j, h0, rfl⟩ := bndV_some hh
        cases hlo with
        | none =>
          simp only [bndV, Option.some.injEq] at hl; subst hl
          simp only [Option.getD_some, Option.getD_none] at hle ⊢
          have e1 := run_sliceBound (C := C) h0 hv0 (y := cap) (by omega) (by omega) (if isSlice then .sliceAcap else .sliceAlen) w
          simp [Instr.sliceBounds, e1]
        | some hv =>
          obtain ⟨i, h1, rfl⟩ := bndV_some hl
          simp only [Option.getD_some] at hle ⊢
          have e1 := run_sliceBound (C := C) h0 hv0 (y := cap) (by omega) (by omega) (if isSlice then .sliceAcap else .sliceAlen) w
          have e2 := run_sliceBound (C := C) h1 hv (y := j.toNat) (by omega) (by omega) .sliceB w
          simp [Instr.sliceBounds, e1, e2]
    · cases hb
  · cases hb

theorem sliceV_sound {t : TypeId} {x v : V} {lo hi : Option V} (h : sliceV C t x lo hi = some v) {x' : Value} {lo' hi' : Option Value} (hx : VR g x x') (hlo : OptR g lo lo') (hhi : OptR g hi hi') (w : World) :
    ∃ v', (Instr.sliceAt t x' lo' hi' none).run C.P w = .ok v' w ∧ VR g v v' := by
  unfold sliceV at h
  split at h
  · rename_i s hu
    cases hb : boundsV s.length lo hi with
    | none => rw [hb] at h; cases h
    | some lh =>
      obtain ⟨l, hh⟩ := lh
      rw [hb] at h; cases h
      simp only [VR] at hx; subst hx
      have := run_sliceBounds (C := C) false (Nat.le_refl _) hlo hhi hb w
      refine ⟨.string ((⟨s.toArray⟩ : ByteArray).extract l hh), ?_, by simp only [VR]; rw [bytes_extract]⟩
      simp only [Instr.sliceAt, Instr.slice, Sem.run_bind, run_underlying hu, Result.andThen_ok, bytes_size, Option.isSome_none, Bool.false_eq_true, if_false, this]
      rfl
  · rename_i elem tip xs hu
    split at h
    · rename_i s l hh hs hb
      split at h
      · rename_i hok
        cases h
        obtain ⟨a, cap, vs, S, rfl, h2, h3, h4, h5⟩ := hx
        have hle := boundsV_le hb
        have := run_sliceBounds (C := C) true h4 hlo hhi hb w
        have hlen : ((xs.take hh).drop l).length = hh - l := by simp; omega
        refine ⟨.slice (if cap = l then a else a.map (·.add (l * s))) (hh - l) (cap - l), ?_, ?_⟩
        · simp only [Instr.sliceAt, Instr.slice, Sem.run_bind, run_underlying hu, Result.andThen_ok, this, run_szOf hs]
          rfl
        · refine ⟨_, cap - l, (vs.take (hh * S)).drop (l * S), S, by rw [hlen], (h2.take hh).drop l, ?_, by rw [hlen]; omega, fun hne => ?_⟩
          · split
            · rename_i hc
              have hne : xs ≠ [] := fun e => by subst e; simp at hc; omega
              have hS := h2.size hok.1 hne
              have hcl : ¬ cap = l := by omega
              rw [hlen]
              cases tip with
              | none => trivial
              | full => simp only [TipR] at h3 ⊢; omega
              | own b =>
                obtain ⟨B, o, rfl, h6, h7⟩ := h3
                refine ⟨B, o + l * s, by simp [hcl, add_addr], h6, ?_⟩
                subst hS
                rw [h7, Nat.add_assoc, ← Nat.add_mul, Nat.add_assoc, ← Nat.add_mul]
                rw [show l + (hh - l) = xs.length by omega, show l + (cap - l) = cap by omega]
            · trivial
          · have hlt : l < hh := by
              rcases Nat.lt_or_ge l hh with h | h
              · exact h
              · exact absurd (List.eq_nil_of_length_eq_zero (by rw [hlen]; omega)) hne
            have hxs : xs ≠ [] := fun e => by subst e; simp at hne
            obtain ⟨B, o, rfl, hrow⟩ := h5 hxs
            have hS := h2.size hok.1 hxs
            have hcl : ¬ cap = l := by omega
            refine ⟨B, o + l * s, by simp [hcl, add_addr], fun i v hi => ?_⟩
            subst hS
            rw [List.getElem?_drop, List.getElem?_take] at hi
            split at hi
            · rw [Nat.add_assoc]; exact hrow _ _ hi
            · cases hi
      · cases h
    · cases h
  · rename_i elem b off len cap hu
    split at h
    · rename_i s l hh hs hb
      split at h
      · obtain ⟨B, hκ, cap', rfl, hcap, hun⟩ := hx
        have hle := boundsV_le hb
        have := run_sliceBounds (C := C) true hcap hlo hhi hb w
        have hrun : (Instr.sliceAt t (.slice (some ⟨B, off, none⟩) len cap') lo' hi' none).run C.P w = .ok (.slice (if cap' = l then some ⟨B, off, none⟩ else some ⟨B, off + l * s, none⟩) (hh - l) (cap' - l)) w := by
          simp only [Instr.sliceAt, Instr.slice, Sem.run_bind, run_underlying hu, Result.andThen_ok, this, run_szOf hs, Option.map_some, add_addr]
          rfl
        split at h
        · rename_i hlt
          cases h
          rw [if_neg (by omega)] at hrun
          refine ⟨_, hrun, B, hκ, _, rfl, by omega, ?_⟩
          split
          · rename_i hlt2
            rcases hun with e | e | ⟨S, e, _⟩
            · exact .inl ⟨by rw [e.1], by omega⟩
            · rw [e] at hlt2; exact absurd hlt2 (Nat.lt_irrefl _)
            · rw [e] at hlt2; unfold ownC unk at hlt2; omega
          · exact .inr (.inl rfl)
        · rename_i hlt
          cases h
          exact ⟨_, hrun, _, cap' - l, [], 0, by rw [show hh - l = 0 by omega]; rfl, rfl, trivial, Nat.zero_le _, fun h => absurd rfl h⟩
      · cases h
    · cases h
  · rename_i n elem b off hu
    split at h
    · rename_i s l hh hs hb
      split at h
      · rename_i hsn
        obtain ⟨B, hκ, rfl⟩ := hx
        have hle := boundsV_le hb
        have := run_sliceBounds (C := C) false (Nat.le_refl _) hlo hhi hb w
        have hrun : (Instr.sliceAt t (.pointer (some ⟨B, off, none⟩)) lo' hi' none).run C.P w = .ok (.slice (some (if n = l then ⟨B, off, none⟩ else ⟨B, off + l * s, none⟩)) (hh - l) (n - l)) w := by
          simp only [Instr.sliceAt, Instr.sureAddr, Sem.run_bind, run_underlying hu, Result.andThen_ok, this, run_szOf hs, Sem.run_pure, add_addr]
        split at h
        · rename_i hlt
          cases h
          rw [if_neg (by omega)] at hrun
          exact ⟨_, hrun, B, hκ, _, rfl, by omega, .inl ⟨rfl, by omega⟩⟩
        · rename_i hlt
          cases h
          exact ⟨_, hrun, _, n - l, [], 0, by rw [show hh - l = 0 by omega]; rfl, rfl, trivial, Nat.zero_le _, fun h => absurd rfl h⟩
      · cases h
    · cases h
  · cases h

theorem run_sliceBounds3 {len cap : Nat} {l h m : Int} {lo' : Option Value} {lo : Option V} {hi mx : V} {hi' mx' : Value} (hlo : OptR g lo lo') {l0 : Option Int} (hl0 : bndV lo = some l0) (hl : l = l0.getD 0) (hhi : asIntV hi = some h) (hvh : VR g hi hi') (hmx : asIntV mx = some m) (hvm : VR g mx mx')
    (h0 : 0 ≤ l) (h1 : l ≤ h) (h2 : h ≤ m) (h3 : m ≤ cap) (w : World) : (Instr.sliceBounds true len cap lo' (some hi') (some mx')).run C.P w = .ok (l.toNat, h.toNat, m.toNat) w := by
  have e1 := run_sliceBound (C := C) hmx hvm (y := cap) (by omega) (by omega) .slice3Acap w
  have e2 := run_sliceBound (C := C) hhi hvh (y := m.toNat) (by omega) (by omega) .slice3B w
  cases hlo with
  | none =>
    simp only [bndV, Option.some.injEq] at hl0; subst hl0
    simp only [Option.getD_none] at hl; subst hl
    simp [Instr.sliceBounds, e1, e2]
  | some hv =>
    obtain ⟨i, h4, rfl⟩ := bndV_some hl0
    simp only [Option.getD_some] at hl; subst hl
    have e3 := run_sliceBound (C := C) h4 hv (y := h.toNat) (by omega) (by omega) .slice3C w
    simp [Instr.sliceBounds, e1, e2, e3]

theorem slice3V_sound {t : TypeId} {x v hi mx : V} {lo : Option V} (h : slice3V C t x lo hi mx = some v) {x' hi' mx' : Value} {lo' : Option Value} (hx : VR g x x') (hlo : OptR g lo lo') (hhi : VR g hi hi') (hmx : VR g mx mx') (w : World) :
    ∃ v', (Instr.sliceAt t x' lo' (some hi') (some mx')).run C.P w = .ok v' w ∧ VR g v v' := by
  unfold slice3V at h
  split at h
  · rename_i elem l0 hh m hu hl0 hhi0 hmx0
    split at h
    · rename_i s tip xs hs
      split at h
      · rename_i hok
        obtain ⟨hszk, hs0, h0, h1, h2, h3⟩ := hok
        cases h
        obtain ⟨a, cap, vs, S, rfl, k2, k3, k4, k5⟩ := hx
        have := run_sliceBounds3 (C := C) (len := xs.length) (cap := cap) hlo hl0 rfl hhi0 hhi hmx0 hmx h0 h1 h2 (by omega) w
        generalize l0.getD 0 = l at *
        have hlen : ((xs.take hh.toNat).drop l.toNat).length = hh.toNat - l.toNat := by simp; omega
        refine ⟨.slice (if m.toNat = l.toNat then a else a.map (·.add (l.toNat * s))) (hh.toNat - l.toNat) (m.toNat - l.toNat), ?_, ?_⟩
        · simp only [Instr.sliceAt, Instr.slice, Sem.run_bind, run_underlying hu, Result.andThen_ok, this, run_szOf hs]
          rfl
        · refine ⟨_, m.toNat - l.toNat, (vs.take (hh.toNat * S)).drop (l.toNat * S), S, by rw [hlen], (k2.take hh.toNat).drop l.toNat, ?_, by rw [hlen]; omega, fun hne => ?_⟩
          · split
            · rename_i e; subst e; rw [hlen]; rfl
            · trivial
          · have hlt : l.toNat < hh.toNat := by
              rcases Nat.lt_or_ge l.toNat hh.toNat with h | h
              · exact h
              · exact absurd (List.eq_nil_of_length_eq_zero (by rw [hlen]; omega)) hne
            have hxs : xs ≠ [] := fun e => by subst e; simp at hne
            obtain ⟨B, o, rfl, hrow⟩ := k5 hxs
            have hS := k2.size hszk hxs
            have hcl : ¬ m.toNat = l.toNat := by omega
            refine ⟨B, o + l.toNat * s, by simp [hcl, add_addr], fun i v hi => ?_⟩
            subst hS
            rw [List.getElem?_drop, List.getElem?_take] at hi
            split at hi
            · rw [Nat.add_assoc]; exact hrow _ _ hi
            · cases hi
      · cases h
    · rename_i s b off len cap0 hs
      split at h
      · rename_i hok
        obtain ⟨hs0, h0, h1, h2, h3, h4⟩ := hok
        obtain ⟨B, hκ, cap', rfl, hcap, hun⟩ := hx
        have := run_sliceBounds3 (C := C) (len := len) (cap := cap') hlo hl0 rfl hhi0 hhi hmx0 hmx h0 h1 h2 (by omega) w
        generalize l0.getD 0 = l at *
        have hrun : (Instr.sliceAt t (.slice (some ⟨B, off, none⟩) len cap') lo' (some hi') (some mx')).run C.P w = .ok (.slice (if m.toNat = l.toNat then some ⟨B, off, none⟩ else some ⟨B, off + l.toNat * s, none⟩) (hh.toNat - l.toNat) (m.toNat - l.toNat)) w := by
          simp only [Instr.sliceAt, Instr.slice, Sem.run_bind, run_underlying hu, Result.andThen_ok, this, run_szOf hs, Option.map_some, add_addr]
          rfl
        split at h
        · rename_i hlt
          cases h
          rw [if_neg (by omega)] at hrun
          exact ⟨_, hrun, B, hκ, _, rfl, by omega, .inl ⟨rfl, by omega⟩⟩
        · rename_i hlt
          cases h
          refine ⟨_, hrun, _, m.toNat - l.toNat, [], 0, by rw [show hh.toNat - l.toNat = 0 by omega]; rfl, rfl, ?_, Nat.zero_le _, fun h => absurd rfl h⟩
          split
          · rename_i e; show m.toNat - l.toNat = 0; omega
          · trivial
      · cases h
    · cases h
  · cases h

theorem row_sub {B o : Nat} {vs : List Value} (h : g.row B o vs) (k s : Nat) : g.row B (o + k) ((vs.drop k).take s) := fun i v hi => by
  rw [List.getElem?_take] at hi
  split at hi
  · rw [List.getElem?_drop] at hi; rw [Nat.add_assoc]; exact h _ _ hi
  · cases hi

theorem VC.cells {x : V} {ch : List Value} {cs : List V} (h : VC g x ch) (hc : cellsOf x = some cs) : VRs g cs ch := by
  cases x <;> simp only [cellsOf, Option.some.injEq, reduceCtorEq] at hc <;> subst hc <;> simp only [VC] at h <;> first
    | exact h
    | (obtain ⟨v, rfl, h1, h2⟩ := h; exact ⟨v, [], rfl, h1, h2, rfl⟩)

theorem indexAddrV_sound {t : TypeId} {x ix v : V} (h : indexAddrV C t x ix = some v) {x' ix' : Value} (hx : VR g x x') (hi : VR g ix ix') (w : World) :
    ∃ v', (Instr.indexAt t x' ix').run C.P w = .ok v' w ∧ VR g v v' := by
  unfold indexAddrV at h
  split at h
  · rename_i elem tip xs k i hu
    split at h
    · rename_i s hs
      split at h
      · rename_i hok
        split at h
        · rename_i y hy
          cases hc : cellsOf y with
          | none => rw [hc] at h; cases h
          | some cs =>
            rw [hc] at h; cases h
            obtain ⟨a, cap, vs, S, rfl, h2, h3, h4, h5⟩ := hx
            simp only [VR] at hi; subst hi
            have hlt : i.toNat < xs.length := (List.getElem?_eq_some_iff.1 hy).1
            have hne : xs ≠ [] := fun e => by subst e; simp at hlt
            obtain ⟨B, o, rfl, hrow⟩ := h5 hne
            have hS := h2.size hok.2.2 hne
            have hel := h2.get hy
            refine ⟨.pointer (some ⟨B, o + i.toNat * s, none⟩), ?_, B, o + i.toNat * s, _, rfl, row_sub hrow (i.toNat * s) s, ?_⟩
            · have : 0 ≤ i ∧ i < xs.length := ⟨hok.1, by omega⟩
              simp only [Instr.indexAt, asIntOf, Sem.run_bind, Sem.run_pure, run_underlying hu, Result.andThen_ok, this, and_self, if_true, run_szOf hs, add_addr]
            · subst hS; exact hel.2.cells hc
        · cases h
      · cases h
    · cases h
  · rename_i elem b off len cap k i hu
    split at h
    · rename_i s hs
      split at h
      · rename_i hok
        cases h
        obtain ⟨B, hκ, cap', rfl, hcap, _⟩ := hx
        simp only [VR] at hi; subst hi
        refine ⟨.pointer (some ⟨B, off + i.toNat * s, none⟩), ?_, B, hκ, rfl⟩
        have : 0 ≤ i ∧ i < len := ⟨hok.1, hok.2.1⟩
        simp only [Instr.indexAt, asIntOf, Sem.run_bind, Sem.run_pure, run_underlying hu, Result.andThen_ok, this, and_self, if_true, run_szOf hs, add_addr]
      · cases h
    · cases h
  · rename_i n elem b off k i hu
    split at h
    · rename_i s hs
      split at h
      · rename_i hok
        cases h
        obtain ⟨B, hκ, rfl⟩ := hx
        simp only [VR] at hi; subst hi
        refine ⟨.pointer (some ⟨B, off + i.toNat * s, none⟩), ?_, B, hκ, rfl⟩
        have : 0 ≤ i ∧ i < n := ⟨hok.1, hok.2.1⟩
        simp only [Instr.indexAt, asIntOf, Instr.sureAddr, Sem.run_bind, Sem.run_pure, run_underlying hu, Result.andThen_ok, this, and_self, if_true, run_szOf hs, add_addr]
      · cases h
    · cases h
  · rename_i n elem cs k i hu
    split at h
    · rename_i s hs
      split at h
      · rename_i hok
        cases h
        obtain ⟨B, o, vs, rfl, hrow, hv⟩ := hx
        simp only [VR] at hi; subst hi
        refine ⟨.pointer (some ⟨B, o + i.toNat * s, none⟩), ?_, B, o + i.toNat * s, _, rfl, row_sub hrow (i.toNat * s) s, (hv.drop _).take _⟩
        have : 0 ≤ i ∧ i < n := ⟨hok.1, hok.2.1⟩
        simp only [Instr.indexAt, asIntOf, Instr.sureAddr, Sem.run_bind, Sem.run_pure, run_underlying hu, Result.andThen_ok, this, and_self, if_true, run_szOf hs, add_addr]
      · cases h
    · cases h
  · cases h

theorem indexV_sound {t : TypeId} {x ix v : V} (h : indexV C t x ix = some v) {x' ix' : Value} (hx : VR g x x') (hi : VR g ix ix') (w : World) :
    ∃ v', (Instr.index t x' ix').run C.P w = .ok v' w ∧ VR g v v' := by
  unfold indexV at h
  split at h
  · rename_i s k i hu
    split at h
    · rename_i h0
      cases hb : s[i.toNat]? with
      | none => rw [hb] at h; cases h
      | some b =>
        rw [hb] at h; cases h
        simp only [VR] at hx hi; subst hx; subst hi
        have hlt := (List.getElem?_eq_some_iff.1 hb).1
        have : (⟨s.toArray⟩ : ByteArray)[i.toNat]? = some b := by
          rw [ByteArray.getElem?_lt' _ _ (show i.toNat < s.length from hlt)]
          have := (List.getElem?_eq_some_iff.1 hb).2
          rw [← this]; rfl
        refine ⟨.int .u8 b.toNat, ?_, rfl⟩
        simp only [Instr.index, asIntOf, Sem.run_bind, Sem.run_pure, run_underlying hu, Result.andThen_ok, h0, if_true, this]
    · cases h
  · rename_i n elem cs k i hu
    split at h
    · rename_i s hs
      split at h
      · rename_i hok
        obtain ⟨vs, rfl, hv⟩ := hx
        simp only [VR] at hi; subst hi
        obtain ⟨v', h1, h2⟩ := partV_sound h hv w
        refine ⟨v', ?_, h2⟩
        have : 0 ≤ i ∧ i < n := ⟨hok.1, hok.2.1⟩
        simp only [Instr.index, asIntOf, Sem.run_bind, Sem.run_pure, run_underlying hu, Result.andThen_ok, this, and_self, if_true, run_szOf hs, h1]
      · cases h
    · cases h
  · cases h

theorem fieldV_sound {t : TypeId} {x v : V} {i : Nat} (h : fieldV C t x i = some v) {x' : Value} (hx : VR g x x') (w : World) :
    ∃ v', (Instr.field t x' i).run C.P w = .ok v' w ∧ VR g v v' := by
  unfold fieldV at h
  split at h
  · rename_i fields cs hu
    split at h
    · rename_i f hf
      obtain ⟨vs, rfl, hv⟩ := hx
      obtain ⟨v', h1, h2⟩ := partV_sound h hv w
      refine ⟨v', ?_, h2⟩
      simp only [Instr.field, Sem.run_bind, run_underlying hu, Result.andThen_ok, hf, asAgg, Sem.run_pure, h1]
    · cases h
  · cases h

theorem fieldAddrV_sound {t : TypeId} {x v : V} {i : Nat} (h : fieldAddrV C t x i = some v) {x' : Value} (hx : VR g x x') (w : World) :
    ∃ v', (Instr.fieldAt t x' i).run C.P w = .ok v' w ∧ VR g v v' := by
  unfold fieldAddrV at h
  split at h
  · rename_i fields hu
    split at h
    · rename_i f hf
      split at h
      · rename_i s b off hs
        split at h
        · rename_i h0
          cases h
          obtain ⟨B, hκ, rfl⟩ := hx
          refine ⟨.pointer (some ⟨B, off + f.offset, none⟩), ?_, B, hκ, rfl⟩
          have : ¬ s = 0 := by omega
          simp only [Instr.fieldAt, Sem.run_bind, run_underlying hu, Result.andThen_ok, hf, Instr.sureAddr, Sem.run_pure, fieldPlace, run_szOf hs, this, if_false, add_addr]
        · cases h
      · rename_i s cs hs
        split at h
        · rename_i h0
          cases h
          obtain ⟨B, o, vs, rfl, hrow, hv⟩ := hx
          refine ⟨.pointer (some ⟨B, o + f.offset, none⟩), ?_, B, o + f.offset, _, rfl, row_sub hrow f.offset s, (hv.drop _).take _⟩
          have : ¬ s = 0 := by omega
          simp only [Instr.fieldAt, Sem.run_bind, run_underlying hu, Result.andThen_ok, hf, Instr.sureAddr, Sem.run_pure, fieldPlace, run_szOf hs, this, if_false, add_addr]
        · cases h
      · cases h
    · cases h
  · cases h

theorem loadV_sound {st : St} {w0 : W0} {base : Nat} (hG : GR g st w0 base w) {t : TypeId} {a v : V} (h : loadV C st.H t a = some v) {a' : Value} (ha : VR g a a') :
    ∃ v', (Instr.loadAt t a').run C.P w = .ok v' w ∧ VR g v v' := by
  unfold loadV at h
  split at h
  · rename_i cs
    obtain ⟨B, o, vs, rfl, hrow, hv⟩ := ha
    obtain ⟨v', h1, h2⟩ := loadVar_sound h hv (hG.reads hrow)
    rw [Nat.add_zero] at h1
    exact ⟨v', by simpa only [Instr.loadAt, Instr.sureAddr, Sem.run_bind, Sem.run_pure, Result.andThen_ok] using h1, h2⟩
  · rename_i b off
    split at h
    · rename_i cs hget
      obtain ⟨B, hκ, rfl⟩ := ha
      obtain ⟨vs, h3, h4, _⟩ := hG.reads_obj hget hκ
      obtain ⟨v', h1, h2⟩ := loadVar_sound h h3 h4
      rw [Nat.zero_add] at h1
      exact ⟨v', by simpa only [Instr.loadAt, Instr.sureAddr, Sem.run_bind, Sem.run_pure, Result.andThen_ok] using h1, h2⟩
    · cases h
  · cases h

/-! ### Maps -/
theorem keyT_check {d : TypeDesc} {k : V} (h : keyT d k = true) {k' : Value} (hk : VR g k k') {t : TypeId} (hu : C.P.underlying t = some d) (e : Bool) (n : Nat) (w : World) :
    (Instr.checkKey e (n + 1) t k').run C.P w = .ok () w := by
  unfold keyT at h
  split at h
  · simp only [VR] at hk; subst hk; simp [Instr.checkKey, run_underlying hu]
  · simp only [VR] at hk; subst hk; simp [Instr.checkKey, run_underlying hu]
  · cases h

theorem eqCell_now {d : TypeDesc} {k x : V} {r : Bool} (h : keyT d k = true) (he : eqCell k x = some r) {k' x' : Value} (hk : VR g k k') (hx : VR g x x') : Instr.sameNow d k' x' = some r := by
  unfold keyT at h
  split at h
  · cases x <;> simp only [eqCell, reduceCtorEq] at he
    split at he
    · rename_i hkk; cases he; simp only [VR] at hk hx; subst hk; subst hx; subst hkk; simp [Instr.sameNow]
    · cases he
  · cases x <;> simp only [eqCell, reduceCtorEq, Option.some.injEq] at he
    subst he; simp only [VR] at hk hx; subst hk; subst hx
    simp only [Instr.sameNow, Option.some.injEq]
    rw [beq_toListBytes, bytes_toList, bytes_toList]
  · cases h

theorem findV_sound {d : TypeDesc} {k : V} (hT : keyT d k = true) {k' : Value} (hk : VR g k k') : ∀ {es : List (V × V)} {es' : List MapEntry} {r : Option V}, findV k es = some r → EsR g es es' → ∀ i : Nat,
    match r with
    | none => Instr.findNow d k' es' i = some none
    | some v => ∃ j v', Instr.findNow d k' es' i = some (some (j, v')) ∧ VR g v v'
  | [], _, r, h, .nil, i => by simp only [findV, Option.some.injEq] at h; subst h; rfl
  | (k2, v2) :: es, _, r, h, .cons hk2 hv2 hr, i => by
    rename_i e es'
    simp only [findV] at h
    cases he : eqCell k k2 with
    | none => rw [he] at h; cases h
    | some q =>
      rw [he] at h
      have hn := eqCell_now hT he hk hk2
      cases q
      · simp only at h
        have := findV_sound hT hk h hr (i + 1)
        cases r with
        | none => simp only [Instr.findNow, hn]; exact this
        | some v => simp only [Instr.findNow, hn]; exact this
      · simp only [Option.some.injEq] at h; subst h
        exact ⟨i, e.val, by simp only [Instr.findNow, hn], hv2⟩

theorem lookupV_sound {st : St} {w0 : W0} {base : Nat} (hG : GR g st w0 base w) {t : TypeId} {x ix v : V} {ok : Bool} (h : lookupV C st.H t x ix ok = some v) {x' ix' : Value} (hx : VR g x x') (hi : VR g ix ix') :
    ∃ v', (Instr.lookup t x' ix' ok).run C.P w = .ok v' w ∧ VR g v v' := by
  unfold lookupV at h
  split at h
  · rename_i key elem hu
    split at h
    · rename_i kd z hkd hz
      split at h
      · rename_i hT
        obtain ⟨zv, hzr, hz2⟩ := run_zeroV hz w
        have hzv : VR g z zv := by rw [hz2]; exact ofVal_VR g zv
        have main : ∀ (es : List (V × V)) (es' : Array MapEntry) (r : Option V), findV ix es = some r → EsR g es es'.toList →
            (Instr.checkKey es'.isEmpty 10000 key ix').run C.P w = .ok () w ∧
              ((r = none ∧ (Instr.findKey key ix' es'.toList).run C.P w = .ok none w) ∨ ∃ u j u', r = some u ∧ (Instr.findKey key ix' es'.toList).run C.P w = .ok (some (j, u')) w ∧ VR g u u') := by
          intro es es' r hf hes
          refine ⟨keyT_check (C := C) hT hi hkd es'.isEmpty 9999 w, ?_⟩
          have hfn := findV_sound hT hi hf hes 0
          cases r with
          | none =>
            simp only at hfn
            exact .inl ⟨rfl, by simp only [Instr.findKey, Sem.run_bind, run_underlying hkd, Result.andThen_ok, hfn, Sem.run_pure]⟩
          | some u =>
            obtain ⟨j, u', h1, h2⟩ := hfn
            exact .inr ⟨u, j, u', rfl, by simp only [Instr.findKey, Sem.run_bind, run_underlying hkd, Result.andThen_ok, h1, Sem.run_pure], h2⟩
        cases x <;> simp only [reduceCtorEq] at h
        case nilmap =>
          simp only [VR] at hx; subst hx
          obtain ⟨h1, h2⟩ := main [] #[] none rfl .nil
          rcases h2 with ⟨_, h2⟩ | ⟨u, j, u', h0, _⟩
          · simp only [Option.some.injEq] at h
            subst h
            have h2' : (Instr.findKey key ix' []).run C.P w = .ok none w := h2
            simp only [Instr.lookup, Sem.run_bind, run_underlying hu, Result.andThen_ok, Sem.run_pure, h1, h2', hzr]
            cases ok
            · exact ⟨_, rfl, hzv⟩
            · exact ⟨_, rfl, _, rfl, zv, _, rfl, hzv, _, _, rfl, rfl, rfl⟩
          · cases h0
        case map b =>
          obtain ⟨B, hκ, rfl⟩ := hx
          cases hget : hgetM st.H b with
          | none => rw [hget] at h; cases h
          | some es =>
            rw [hget] at h
            dsimp only at h
            obtain ⟨_, es', ck, _, hb, hes, _⟩ := hG.map_obj hget hκ
            cases hf : findV ix es with
            | none => rw [hf] at h; cases h
            | some r =>
              rw [hf] at h
              obtain ⟨h1, h2⟩ := main es es' r hf hes
              have hgo : (getObj B).run C.P w = .ok (.map es' ck) w := by simp [getObj, Sem.run, hb]
              rcases h2 with ⟨rfl, h2⟩ | ⟨u, j, u', rfl, h2, h3⟩
              · simp only [Option.some.injEq] at h
                subst h
                simp only [Instr.lookup, Sem.run_bind, run_underlying hu, Result.andThen_ok, hgo, Sem.run_pure, h1, h2, hzr]
                cases ok
                · exact ⟨_, rfl, hzv⟩
                · exact ⟨_, rfl, _, rfl, zv, _, rfl, hzv, _, _, rfl, rfl, rfl⟩
              · simp only [Option.some.injEq] at h
                subst h
                simp only [Instr.lookup, Sem.run_bind, run_underlying hu, Result.andThen_ok, hgo, Sem.run_pure, h1, h2]
                cases ok
                · exact ⟨_, rfl, h3⟩
                · exact ⟨_, rfl, _, rfl, u', _, rfl, h3, _, _, rfl, rfl, rfl⟩
      · cases h
    · cases h
  · cases h

/-! Keys that are structs. -/
theorem plainC_VR {c : V} (h : plainC c = true) {v u : Value} (h1 : VR g c v) (h2 : VR g c u) : v = u := by
  cases c <;> simp only [plainC, reduceCtorEq, Bool.false_eq_true] at h <;> simp only [VR] at h1 h2 <;> rw [h1, h2]
theorem plainL_VR : ∀ {cs : List V} {vs us : List Value}, cs.all plainC = true → VRs g cs vs → VRs g cs us → vs = us
  | [], _, _, _, h1, h2 => by simp only [VRs] at h1 h2; rw [h1, h2]
  | c :: cs, _, _, h, ⟨v, vs', e1, _, h1, k1⟩, ⟨u, us', e2, _, h2, k2⟩ => by
    simp only [List.all_cons, Bool.and_eq_true] at h
    rw [e1, e2, plainC_VR h.1 h1 h2, plainL_VR h.2 k1 k2]
theorem plainK_VR {k : V} (h : plainK k = true) {v u : Value} (h1 : VR g k v) (h2 : VR g k u) : v = u := by
  cases k <;> simp only [plainK, reduceCtorEq, Bool.false_eq_true] at h
  obtain ⟨vs, rfl, h1⟩ := h1
  obtain ⟨us, rfl, h2⟩ := h2
  rw [Array.toList_inj.1 (plainL_VR h h1 h2)]
theorem sameC_eq {a b : V} (h : sameC a b = true) : a = b := by
  unfold sameC at h
  split at h
  · simp at h; rw [h.1, h.2]
  · simp at h; rw [h]
  · simp at h; rw [h]
  · cases h
theorem sameL_eq : ∀ {a b : List V}, sameL a b = true → a = b
  | [], [], _ => rfl
  | [], _ :: _, h => by simp [sameL] at h
  | _ :: _, [], h => by simp [sameL] at h
  | x :: a, y :: b, h => by
    simp only [sameL, Bool.and_eq_true] at h
    rw [sameC_eq h.1, sameL_eq h.2]
theorem sameK_eq {a b : V} (h : sameK a b = true) : a = b := by
  unfold sameK at h
  split at h
  · rw [sameL_eq h]
  · cases h
theorem ckK_sound : ∀ (n : Nat) {t : TypeId} {x : V}, ckK C n t x = true → ∀ {x' : Value}, VR g x x' → ∀ (e : Bool) (m : Nat), n ≤ m → ∀ w, (Instr.checkKey e m t x').run C.P w = .ok () w
  | 0, _, _, h, _, _, _, _, _, _ => by simp [ckK] at h
  | n + 1, t, x, h, x', hx, e, m, hm, w => by
    obtain ⟨m, rfl⟩ : ∃ k, m = k + 1 := ⟨m - 1, by omega⟩
    unfold ckK at h
    split at h
    · rename_i fs cs hu
      obtain ⟨vs, rfl, hvs⟩ := hx
      simp only [Instr.checkKey, Sem.run_bind, run_underlying hu, Result.andThen_ok]
      rw [← Array.forIn_toList]
      generalize fs.toList = L at h
      induction L with
      | nil => simp
      | cons f L ih =>
        simp only [List.all_cons, Bool.and_eq_true] at h
        obtain ⟨h1, h2⟩ := h
        cases hp : partV C f.type cs f.offset with
        | none => rw [hp] at h1; cases h1
        | some p =>
          rw [hp] at h1
          obtain ⟨p', q1, q2⟩ := partV_sound hp hvs w
          have q3 := ckK_sound n h1 q2 e m (by omega) w
          by_cases hn : f.name = "_"
          · simp only [List.forIn_cons, Sem.run_bind, hn, ne_eq, not_true_eq_false, if_false, Result.andThen_ok, Sem.run_pure]
            exact ih h2
          · simp only [List.forIn_cons, Sem.run_bind, hn, ne_eq, not_false_eq_true, if_true, Result.andThen_ok, q1, q3, Sem.run_pure]
            exact ih h2
    all_goals first
      | (rename_i hu; simp only [VR] at hx; subst hx; simp [Instr.checkKey, run_underlying hu]; done)
      | cases h
theorem keyG_struct {key : TypeId} {kd : TypeDesc} {k : V} (h : keyG C key kd k = true) : (∃ fs, kd = .struct fs) ∧ plainK k = true ∧ ckK C 9 key k = true := by
  unfold keyG at h
  split at h
  · simp only [Bool.and_eq_true] at h; exact ⟨⟨_, rfl⟩, h.1, h.2⟩
  · cases h
theorem eqK_sound (hC : COk C) {key : TypeId} {a b : V} {r : Bool} (h : eqK C key a b = some r) {a' b' : Value} (ha : VR g a a') (hb : VR g b b') (w : World) : (Op.equal key a' b').run C.P w = .ok r w ∧ (r = true → a = b) := by
  unfold eqK at h
  split at h
  · rename_i he
    split at h
    · rename_i hs
      cases h
      exact ⟨eqT_sound hC 9 he ha hb _ (by decide) w, fun _ => sameK_eq hs⟩
    · cases h
  · rename_i hne
    refine ⟨eqT_sound hC 9 h ha hb _ (by decide) w, fun hr => ?_⟩
    subst hr; exact absurd h (by simpa using hne)
theorem findNow_struct (fs : Array Field) (k : Value) (e : MapEntry) (es : List MapEntry) (i : Nat) : Instr.findNow (.struct fs) k (e :: es) i = none := by
  simp [Instr.findNow, Instr.sameNow]
theorem findA_sound (hC : COk C) {key : TypeId} {k : V} {k' : Value} (hk : VR g k k') (w : World) : ∀ {es : List (V × V)} {es' : List MapEntry} {r : Option V}, findG C key k es = some r → EsR g es es' → ∀ i : Nat,
    match r with
    | none => (Instr.findAsking key k' es' i).run C.P w = .ok none w
    | some v => ∃ j v', (Instr.findAsking key k' es' i).run C.P w = .ok (some (j, v')) w ∧ VR g v v'
  | [], _, r, h, .nil, i => by simp only [findG, Option.some.injEq] at h; subst h; simp [Instr.findAsking]
  | (k2, v2) :: es, _, r, h, .cons hk2 hv2 hr, i => by
    rename_i e es'
    simp only [findG] at h
    cases he : eqK C key k k2 with
    | none => rw [he] at h; cases h
    | some q =>
      rw [he] at h
      have hn := (eqK_sound hC he hk hk2 w).1
      cases q
      · simp only at h
        have := findA_sound hC hk w h hr (i + 1)
        cases r with
        | none => simp only [Instr.findAsking, Sem.run_bind, hn, Result.andThen_ok, Bool.false_eq_true, if_false]; exact this
        | some v => simp only [Instr.findAsking, Sem.run_bind, hn, Result.andThen_ok, Bool.false_eq_true, if_false]; exact this
      · simp only [Option.some.injEq] at h; subst h
        exact ⟨i, e.val, by simp only [Instr.findAsking, Sem.run_bind, hn, Result.andThen_ok, if_true, Sem.run_pure], hv2⟩
theorem findG_sound (hC : COk C) {key : TypeId} {fs : Array Field} (hkd : C.P.underlying key = some (.struct fs)) {k : V} {k' : Value} (hk : VR g k k') (w : World) {es : List (V × V)} {es' : List MapEntry} {r : Option V} (h : findG C key k es = some r) (hes : EsR g es es') :
    (r = none ∧ (Instr.findKey key k' es').run C.P w = .ok none w) ∨ ∃ u j u', r = some u ∧ (Instr.findKey key k' es').run C.P w = .ok (some (j, u')) w ∧ VR g u u' := by
  have ha := findA_sound hC hk w h hes 0
  have hf : (Instr.findKey key k' es').run C.P w = (Instr.findAsking key k' es' 0).run C.P w := by
    cases es' with
    | nil => simp [Instr.findKey, Sem.run_bind, run_underlying hkd, Result.andThen_ok, Instr.findNow, Instr.findAsking]
    | cons e es' => simp only [Instr.findKey, Sem.run_bind, run_underlying hkd, Result.andThen_ok, findNow_struct]
  rw [hf]
  cases r with
  | none => exact .inl ⟨rfl, ha⟩
  | some u =>
    obtain ⟨j, u', h1, h2⟩ := ha
    exact .inr ⟨u, j, u', rfl, h1, h2⟩
theorem lookupG_sound (hC : COk C) {st : St} {w0 : W0} {base : Nat} (hG : GR g st w0 base w) {t : TypeId} {x ix v : V} {ok : Bool} (h : lookupG C st.H t x ix ok = some v) {x' ix' : Value} (hx : VR g x x') (hi : VR g ix ix') :
    ∃ v', (Instr.lookup t x' ix' ok).run C.P w = .ok v' w ∧ VR g v v' := by
  unfold lookupG at h
  split at h
  · rename_i key elem hu
    split at h
    · rename_i kd z hkd hz
      split at h
      · rename_i hT
        obtain ⟨⟨fs, rfl⟩, hpk, hck⟩ := keyG_struct hT
        obtain ⟨zv, hzr, hz2⟩ := run_zeroV hz w
        have hzv : VR g z zv := by rw [hz2]; exact ofVal_VR g zv
        have main : ∀ (es : List (V × V)) (es' : Array MapEntry) (r : Option V), findG C key ix es = some r → EsR g es es'.toList →
            (Instr.checkKey es'.isEmpty 10000 key ix').run C.P w = .ok () w ∧
              ((r = none ∧ (Instr.findKey key ix' es'.toList).run C.P w = .ok none w) ∨ ∃ u j u', r = some u ∧ (Instr.findKey key ix' es'.toList).run C.P w = .ok (some (j, u')) w ∧ VR g u u') := by
          intro es es' r hf hes
          exact ⟨ckK_sound 9 hck hi _ _ (by decide) w, findG_sound hC hkd hi w hf hes⟩
        cases x <;> simp only [reduceCtorEq] at h
        case nilmap =>
          simp only [VR] at hx; subst hx
          obtain ⟨h1, h2⟩ := main [] #[] none rfl .nil
          rcases h2 with ⟨_, h2⟩ | ⟨u, j, u', h0, _⟩
          · simp only [Option.some.injEq] at h
            subst h
            have h2' : (Instr.findKey key ix' []).run C.P w = .ok none w := h2
            simp only [Instr.lookup, Sem.run_bind, run_underlying hu, Result.andThen_ok, Sem.run_pure, h1, h2', hzr]
            cases ok
            · exact ⟨_, rfl, hzv⟩
            · exact ⟨_, rfl, _, rfl, zv, _, rfl, hzv, _, _, rfl, rfl, rfl⟩
          · cases h0
        case map b =>
          obtain ⟨B, hκ, rfl⟩ := hx
          cases hget : hgetM st.H b with
          | none => rw [hget] at h; cases h
          | some es =>
            rw [hget] at h
            dsimp only at h
            obtain ⟨_, es', ck, _, hb, hes, _⟩ := hG.map_obj hget hκ
            cases hf : findG C key ix es with
            | none => rw [hf] at h; cases h
            | some r =>
              rw [hf] at h
              obtain ⟨h1, h2⟩ := main es es' r hf hes
              have hgo : (getObj B).run C.P w = .ok (.map es' ck) w := by simp [getObj, Sem.run, hb]
              rcases h2 with ⟨rfl, h2⟩ | ⟨u, j, u', rfl, h2, h3⟩
              · simp only [Option.some.injEq] at h
                subst h
                simp only [Instr.lookup, Sem.run_bind, run_underlying hu, Result.andThen_ok, hgo, Sem.run_pure, h1, h2, hzr]
                cases ok
                · exact ⟨_, rfl, hzv⟩
                · exact ⟨_, rfl, _, rfl, zv, _, rfl, hzv, _, _, rfl, rfl, rfl⟩
              · simp only [Option.some.injEq] at h
                subst h
                simp only [Instr.lookup, Sem.run_bind, run_underlying hu, Result.andThen_ok, hgo, Sem.run_pure, h1, h2]
                cases ok
                · exact ⟨_, rfl, h3⟩
                · exact ⟨_, rfl, _, rfl, u', _, rfl, h3, _, _, rfl, rfl, rfl⟩
      · cases h
    · cases h
  · cases h
theorem typeAssertV_sound {x v : V} {a : TypeId} {ok : Bool} (h : typeAssertV C x a ok = some v) {x' : Value} (hx : VR g x x') (xt : TypeId) (w : World) :
    ∃ v', (Instr.typeAssert x' xt a ok).run C.P w = .ok v' w ∧ VR g v v' := by
  unfold typeAssertV at h
  have fails : ∀ z, zeroV C a = some z → ∃ zv, (zeroValue a).run C.P w = .ok zv w ∧ VR g z zv := fun z hz => by
    obtain ⟨zv, h1, h2⟩ := run_zeroV hz w
    exact ⟨zv, h1, by rw [h2]; exact ofVal_VR g zv⟩
  split at h
  · cases h
  · cases h
  · rename_i d hd hu
    have hni : ∀ fs, d ≠ .interface fs := fun fs e => by subst e; exact hd fs rfl
    split at h
    · rename_i t u
      obtain ⟨u', rfl, hu'⟩ := hx
      split at h
      · rename_i ht
        subst ht
        cases h
        refine ⟨if ok then .tuple #[u', .bool true] else u', ?_, ?_⟩
        · unfold Instr.typeAssert
          simp only [Sem.run_bind, hu, run_underlying hu, Result.andThen_ok]
          cases d <;> first | exact absurd rfl (hni _) | simp only [if_true, Sem.run_pure]
        · cases ok
          · exact hu'
          · exact ⟨_, rfl, u', _, rfl, hu', _, _, rfl, rfl, rfl⟩
      · rename_i ht
        split at h
        · rename_i hok
          cases hz : zeroV C a with
          | none => rw [hz] at h; cases h
          | some z =>
            rw [hz] at h; cases h
            obtain ⟨zv, h1, h2⟩ := fails z hz
            refine ⟨.tuple #[zv, .bool false], ?_, _, rfl, zv, _, rfl, h2, _, _, rfl, rfl, rfl⟩
            unfold Instr.typeAssert
            simp only [Sem.run_bind, run_underlying hu, Result.andThen_ok, hok]
            cases d <;> first | exact absurd rfl (hni _) | simp only [ht, if_false, if_true, Sem.run_bind, h1, Result.andThen_ok, Sem.run_pure]
        · cases h
    · simp only [VR] at hx; subst hx
      split at h
      · rename_i hok
        cases hz : zeroV C a with
        | none => rw [hz] at h; cases h
        | some z =>
          rw [hz] at h; cases h
          obtain ⟨zv, h1, h2⟩ := fails z hz
          refine ⟨.tuple #[zv, .bool false], ?_, _, rfl, zv, _, rfl, h2, _, _, rfl, rfl, rfl⟩
          unfold Instr.typeAssert
          simp only [Sem.run_bind, run_underlying hu, Result.andThen_ok, hok]
          cases d <;> first | exact absurd rfl (hni _) | simp only [if_true, Sem.run_bind, h1, Result.andThen_ok, Sem.run_pure]
      · cases h
    · cases h

theorem lenV_sound {st : St} {w0 : W0} {base : Nat} (hG : GR g st w0 base w) {t : TypeId} {x v : V} (h : lenV C st.H t x = some v) {x' : Value} (hx : VR g x x') (ty : TypeId) :
    ∃ v', (Builtin.len_ #[t] ty #[x']).run C.P w = .ok v' w ∧ VR g v v' := by
  unfold lenV at h
  split at h
  · rename_i s hu; cases h; simp only [VR] at hx; subst hx
    exact ⟨goInt s.length, by simp only [Builtin.len_, List.getElem?_toArray, List.getElem?_cons_zero, Sem.run_bind, run_underlying hu, Result.andThen_ok, Sem.run_pure]; rfl, rfl⟩
  · rename_i e tip xs hu; cases h; obtain ⟨a, cap, vs, S, rfl, _⟩ := hx
    exact ⟨goInt _, by simp only [Builtin.len_, List.getElem?_toArray, List.getElem?_cons_zero, Sem.run_bind, run_underlying hu, Result.andThen_ok, Sem.run_pure], rfl⟩
  · rename_i e b off len cap hu; cases h; obtain ⟨B, hκ, cap', rfl, _⟩ := hx
    exact ⟨goInt _, by simp only [Builtin.len_, List.getElem?_toArray, List.getElem?_cons_zero, Sem.run_bind, run_underlying hu, Result.andThen_ok, Sem.run_pure], rfl⟩
  · rename_i n e hu; cases h
    exact ⟨goInt _, by simp only [Builtin.len_, List.getElem?_toArray, List.getElem?_cons_zero, Sem.run_bind, run_underlying hu, Result.andThen_ok, Sem.run_pure], rfl⟩
  · rename_i k e hu; cases h; simp only [VR] at hx; subst hx
    exact ⟨goInt _, by simp only [Builtin.len_, List.getElem?_toArray, List.getElem?_cons_zero, Sem.run_bind, run_underlying hu, Result.andThen_ok, Sem.run_pure], rfl⟩
  · rename_i k e b hu
    split at h
    · rename_i es hget
      cases h
      obtain ⟨B, hκ, rfl⟩ := hx
      obtain ⟨_, es', ck, _, hb, hes, _⟩ := hG.map_obj hget hκ
      have hgo : (getObj B).run C.P w = .ok (.map es' ck) w := by simp [getObj, Sem.run, hb]
      have hl := hes.length
      simp only [Array.length_toList] at hl
      exact ⟨goInt es'.size, by simp only [Builtin.len_, List.getElem?_toArray, List.getElem?_cons_zero, Sem.run_bind, run_underlying hu, Result.andThen_ok, hgo, Sem.run_pure], by simp only [VR, goInt, hl]⟩
    · cases h
  · cases h
end
end Go.Vm
/- What an operation yields by the evaluator, it yields in the model: all that leave memory alone, and those that make memory. -/
namespace Go.Vm
open Go Go.RowKit

section
variable {C : Cfg} {g : Ghost} {w : World} {st : St} {w0 : W0} {base : Nat}

theorem OptR.map {ρ : Operand → V} {ρ' : Operand → Value} (h : ∀ x, VR g (ρ x) (ρ' x)) (o : Option Operand) : OptR g (o.map ρ) (o.map ρ') := by
  cases o with
  | none => exact .none
  | some x => exact .some (h x)

theorem VRl.map {ρ : Operand → V} {ρ' : Operand → Value} (h : ∀ x, VR g (ρ x) (ρ' x)) : ∀ l : List Operand, VRl g (l.map ρ) (l.map ρ')
  | [] => rfl
  | x :: l => ⟨_, _, rfl, h x, VRl.map h l⟩

theorem VRl.append : ∀ {as bs : List V} {us vs : List Value}, VRl g as us → VRl g bs vs → VRl g (as ++ bs) (us ++ vs)
  | [], _, us, _, h, k => by simp only [VRl] at h; subst h; exact k
  | a :: as, _, us, _, h, k => by
    simp only [VRl] at h; obtain ⟨u, us', rfl, h2, h⟩ := h
    simp only [List.cons_append, VRl]; exact ⟨u, _, rfl, h2, VRl.append h k⟩

/-- Operations that leave memory alone. -/
theorem rd_sound (hC : COk C) (hG : GR g st w0 base w) {ρ : Operand → V} {ρ' : Operand → Value} (hρ : ∀ x, VR g (ρ x) (ρ' x)) (o : Oper) {v : V} (h : rdOp C st.H ρ o.op = some v) :
    ∃ v', (execOp ρ' o).run C.P w = .ok (.value v') w ∧ VR g v v' := by
  obtain ⟨dst, op, type, pos, after, guard⟩ := o
  simp only at h
  cases op <;> simp only [rdOp, reduceCtorEq] at h
  case move x => cases h; exact ⟨_, rfl, hρ x⟩
  case assign x => cases h; exact ⟨_, rfl, hρ x⟩
  case pick c a b =>
    have hc := hρ c
    cases hcv : ρ c <;> rw [hcv] at h hc <;> simp only [reduceCtorEq, Option.some.injEq] at h
    rename_i t
    simp only [VR] at hc
    subst h
    refine ⟨if t then ρ' a else ρ' b, ?_, ?_⟩
    · simp only [execOp, hc, asBool, Sem.run_bind, Sem.run_pure, Result.andThen_ok]
    · cases t
      · exact hρ b
      · exact hρ a
  case build t parts =>
    have hp : PartsR g (parts.toList.map fun (i, x) => (i, ρ x)) (parts.map fun (i, x) => (i, ρ' x)).toList := by rw [Array.toList_map]; exact PartsR.of hρ parts.toList
    obtain ⟨v', h1, h2⟩ := buildV_sound h hp w
    exact ⟨v', by simp only [execOp, Sem.run_bind, h1, Result.andThen_ok, Sem.run_pure], h2⟩
  case load t a =>
    obtain ⟨v', h1, h2⟩ := loadV_sound hG h (hρ a)
    exact ⟨v', by simp only [execOp, Sem.run_bind, h1, Result.andThen_ok, Sem.run_pure], h2⟩
  case nilCheck x =>
    have hx := hρ x
    cases hxv : ρ x <;> rw [hxv] at h hx <;> (first | (cases h; done) | skip)
    case ptr b off => obtain ⟨B, h1, h2⟩ := hx; cases h; exact ⟨_, by simp only [execOp, h2]; rfl, B, h1, rfl⟩
    case cptr cs => obtain ⟨B, o, vs, h2, r⟩ := hx; cases h; exact ⟨_, by simp only [execOp, h2]; rfl, B, o, vs, rfl, r⟩
    case func fn fi ca =>
      obtain ⟨fi', ca', h2, r⟩ := hx
      cases fn <;> (first | (cases h; done) | skip)
      cases h; exact ⟨_, by simp only [execOp, h2]; rfl, fi', ca', rfl, r⟩
    case iface t y => obtain ⟨x', h2, r⟩ := hx; cases h; exact ⟨_, by simp only [execOp, h2]; rfl, x', rfl, r⟩
  case binOp op t x y yt =>
    obtain ⟨v', h1, h2⟩ := binV_sound hC h (hρ x) (hρ y) (ox := x) (oy := y) rfl w
    exact ⟨v', by simp only [execOp]; rw [Sem.run_bind, h1]; rfl, h2⟩
  case unOp op t x =>
    obtain ⟨v', h1, h2⟩ := run_unV (C := C) h (hρ x) w
    exact ⟨v', by simp only [execOp, Sem.run_bind, h1, Result.andThen_ok, Sem.run_pure], h2⟩
  case convert s d x =>
    obtain ⟨v', h1, h2⟩ := convV_sound hG h (hρ x)
    exact ⟨v', by simp only [execOp, Sem.run_bind, h1, Result.andThen_ok, Sem.run_pure], h2⟩
  case makeInterface t x =>
    unfold makeIfaceV at h
    split at h
    · cases h
    · rename_i d hd hu
      cases h
      refine ⟨.iface t (ρ' x), ?_, _, rfl, hρ x⟩
      have : (Instr.makeInterface t (ρ' x)).run C.P w = .ok (.iface t (ρ' x)) w := by
        simp only [Instr.makeInterface, Sem.run_bind, run_underlying hu, Result.andThen_ok]
        cases d <;> first | rfl | exact absurd rfl (hd _)
      simp only [execOp, Sem.run_bind, this, Result.andThen_ok, Sem.run_pure]
    · cases h
  case makeFunc fn first captured =>
    cases h
    refine ⟨.func fn (first.map ρ') (captured.map ρ'), by simp only [execOp, Instr.makeFunc, Sem.run_bind, Sem.run_pure, Result.andThen_ok], _, _, rfl, ?_, ?_⟩
    · rw [Array.toList_map]; exact VRl.map hρ _
    · rw [Array.toList_map]; exact VRl.map hρ _
  case slice t x lo hi mx =>
    cases mx with
    | some m =>
      cases hi with
      | none => cases h
      | some hi =>
        obtain ⟨v', h1, h2⟩ := slice3V_sound h (hρ x) (OptR.map hρ lo) (hρ hi) (hρ m) w
        exact ⟨v', by simp only [execOp, Sem.run_bind, Option.map_some, h1, Result.andThen_ok, Sem.run_pure], h2⟩
    | none =>
      obtain ⟨v', h1, h2⟩ := sliceV_sound h (hρ x) (OptR.map hρ lo) (OptR.map hρ hi) w
      exact ⟨v', by simp only [execOp, Sem.run_bind, Option.map_none, h1, Result.andThen_ok, Sem.run_pure], h2⟩
  case fieldAddr t x i =>
    obtain ⟨v', h1, h2⟩ := fieldAddrV_sound h (hρ x) w
    exact ⟨v', by simp only [execOp, Sem.run_bind, h1, Result.andThen_ok, Sem.run_pure], h2⟩
  case field t x i =>
    obtain ⟨v', h1, h2⟩ := fieldV_sound h (hρ x) w
    exact ⟨v', by simp only [execOp, Sem.run_bind, h1, Result.andThen_ok, Sem.run_pure], h2⟩
  case indexAddr t x ix =>
    obtain ⟨v', h1, h2⟩ := indexAddrV_sound h (hρ x) (hρ ix) w
    exact ⟨v', by simp only [execOp, Sem.run_bind, h1, Result.andThen_ok, Sem.run_pure], h2⟩
  case index t x ix =>
    obtain ⟨v', h1, h2⟩ := indexV_sound h (hρ x) (hρ ix) w
    exact ⟨v', by simp only [execOp, Sem.run_bind, h1, Result.andThen_ok, Sem.run_pure], h2⟩
  case lookup t x ix ok =>
    obtain ⟨v', h1, h2⟩ := lookupV_sound hG h (hρ x) (hρ ix)
    exact ⟨v', by simp only [execOp, Sem.run_bind, h1, Result.andThen_ok, Sem.run_pure], h2⟩
  case extract x i =>
    have hx := hρ x
    cases hxv : ρ x <;> rw [hxv] at h hx <;> simp only [reduceCtorEq] at h
    obtain ⟨vs, h2, r⟩ := hx
    obtain ⟨v', h3, h4⟩ := r.get h
    have h3' : vs[i]? = some v' := by rw [← Array.getElem?_toList]; exact h3
    exact ⟨v', by simp only [execOp, h2, Instr.extract, h3', Sem.run_bind, Sem.run_pure, Result.andThen_ok], h4⟩
  case call c =>
    obtain ⟨callee, args, argTypes⟩ := c
    cases callee <;> (first | (cases h; done) | skip)
    rename_i b
    cases b <;> (first | (cases h; done) | skip)
    simp only at h
    split at h
    · rename_i x t ha ht
      obtain ⟨v', h1, h2⟩ := lenV_sound hG h (hρ x) type
      have e1 : args.map ρ' = #[ρ' x] := by apply Array.toList_inj.1; rw [Array.toList_map, ha]; rfl
      have e2 : argTypes = #[t] := by apply Array.toList_inj.1; rw [ht]
      exact ⟨v', by simp only [execOp, resolve, e1, e2, Sem.run_bind, Sem.run_pure, Result.andThen_ok, invoke, builtin, h1], h2⟩
    · cases h

/-! ### Rows of zeros -/
theorem tile_eq (z : Array Value) (hz : 0 < z.size) : ∀ n, ((Array.range (n * z.size)).map fun i => z[i % z.size]!).toList = (List.replicate n z.toList).flatten
  | 0 => by simp
  | n + 1 => by
    have ih := tile_eq z hz n
    simp only [Array.toList_map, Array.toList_range] at ih ⊢
    rw [Nat.add_mul, Nat.one_mul, Nat.add_comm, List.range_add, List.map_append, List.map_map, List.replicate_succ, List.flatten_cons, ← ih]
    congr 1
    · apply List.ext_getElem?
      intro i
      rcases Nat.lt_or_ge i z.size with h | h
      · simp [h, Nat.mod_eq_of_lt h]
      · simp [Nat.not_lt.2 h]
    · apply List.map_congr_left
      intro i _
      simp

theorem VRe_replicate {S : Nat} {z : V} {zs : List Value} (hz : VC g z zs) (hs : zs.length = S) : ∀ n, VRe g S (List.replicate n z) (List.replicate n zs).flatten
  | 0 => rfl
  | n + 1 => by
    rw [List.replicate_succ, List.replicate_succ, List.flatten_cons]
    exact VRe_cons.2 ⟨zs, _, rfl, hs, by rw [hz.ncells]; exact hs, hz, VRe_replicate hz hs n⟩

theorem VRs_replicate {cs : List V} {zs : List Value} (hz : VRs g cs zs) : ∀ n, VRs g (List.replicate n cs).flatten (List.replicate n zs).flatten
  | 0 => rfl
  | n + 1 => by rw [List.replicate_succ, List.replicate_succ, List.flatten_cons, List.flatten_cons]; exact hz.append (VRs_replicate hz n)

theorem VRe.set {S : Nat} {x : V} {ch : List Value} (hx : VC g x ch) (hs : ch.length = S) : ∀ {xs : List V} {vs : List Value} (i : Nat), VRe g S xs vs → i < xs.length →
    VRe g S (xs.set i x) (vs.take (i * S) ++ ch ++ vs.drop (i * S + ch.length))
  | [], _, _, _, h => by simp at h
  | y :: xs, vs, i, h, hi => by
    obtain ⟨c, vs', rfl, h1, h2, h3, h4⟩ := VRe_cons.1 h
    cases i with
    | zero =>
      refine VRe_cons.2 ⟨ch, vs', ?_, hs, by rw [hx.ncells]; exact hs, hx, h4⟩
      rw [Nat.zero_mul, List.take_zero, List.nil_append, Nat.zero_add, show ch.length = c.length by omega, List.drop_left']
      rfl
    | succ i =>
      refine VRe_cons.2 ⟨c, _, ?_, h1, h2, h3, VRe.set hx hs i h4 (by simpa using hi)⟩
      rw [show (i + 1) * S = c.length + i * S by rw [h1, Nat.add_mul, Nat.one_mul, Nat.add_comm], List.take_length_add_append, Nat.add_assoc, List.drop_length_add_append]
      simp [List.append_assoc]

theorem VC_of {x : V} {v : Value} (h : VR g x v) (he : isElem x = true) : VC g x v.cells.toList := by
  cases x
  case agg cs => obtain ⟨vs, rfl, h2⟩ := h; exact h2
  case any => cases he
  case tup => cases he
  all_goals
    have hc := cellsOf_VR h (cs := [_]) rfl
    simp only [VRs] at hc
    obtain ⟨u, us, h1, h2, h3, rfl⟩ := hc
    exact ⟨u, h1, h2, h3⟩

theorem setAll_length : ∀ (ps : List (Nat × V)) (xs : List V), (setAll xs ps).length = xs.length
  | [], _ => rfl
  | (i, x) :: ps, xs => by simp only [setAll]; rw [setAll_length ps]; simp

theorem setAll_sound {S : Nat} : ∀ {ps : List (Nat × V)} {qs : List (Nat × Value)} {xs : List V} {vs : Array Value} {len : Nat}, ps.all (fun p => isElem p.2 && ncells p.2 == S && decide (p.1 < len)) = true → PartsR g ps qs → xs.length = len → VRe g S xs vs.toList →
    ∃ vs', Instr.fill (fun i => some (i * S, S)) vs qs = some vs' ∧ VRe g S (setAll xs ps) vs'.toList
  | [], _, xs, vs, len, _, .nil, _, hv => ⟨vs, rfl, hv⟩
  | (i, x) :: ps, _, xs, vs, len, h, .cons hx hr, hl, hv => by
    rename_i y qs
    simp only [List.all_cons, Bool.and_eq_true, beq_iff_eq, decide_eq_true_eq] at h
    obtain ⟨⟨⟨h1, h2⟩, h3⟩, h4⟩ := h
    have hc := VC_of hx h1
    have hn := hc.ncells
    have hcl : y.cells.size = S := by rw [h2] at hn; simpa using hn.symm
    have hvl := hv.length
    simp only [Array.length_toList] at hvl
    have hfit : i * S + S ≤ vs.size := by rw [hvl, ← Nat.succ_mul]; exact Nat.mul_le_mul_right _ (by omega)
    simp only [Instr.fill]
    have hnot : ¬ ((decide (y.cells.size ≠ S) || decide (i * S + y.cells.size > vs.size)) = true) := by
      simp only [Bool.or_eq_true, decide_eq_true_eq, not_or]
      omega
    rw [if_neg hnot]
    simp only [setAll]
    refine setAll_sound h4 hr (by simpa using hl) ?_
    have hf := foldl_set_cells (i * S) y.cells.toList 0 vs (by simp; omega)
    have he : (Array.foldl (fun (cs : Array Value) (x : Value × Nat) => cs.setIfInBounds (i * S + x.2) x.1) vs y.cells.zipIdx).toList =
        vs.toList.take (i * S) ++ y.cells.toList ++ vs.toList.drop (i * S + y.cells.toList.length) := by
      rw [← Array.foldl_toList, Array.toList_zipIdx]; simpa using hf
    have := hv.set hc.stripAgg (by simpa using hcl) i (by omega)
    rw [← he] at this
    exact this

theorem buildSliceV_sound (hG : GR g st w0 base w) {t : TypeId} {len : Nat} {ps : List (Nat × V)} {v : V} (h : buildSliceV C t len ps = some v) {qs : Array (Nat × Value)} (hp : PartsR g ps qs.toList) :
    ∃ v' w' g', (Instr.buildSlice t len qs).run C.P w = .ok v' w' ∧ g.le g' ∧ VR g' v v' ∧ GR g' st w0 base w' ∧ (∀ i, g'.κ i = g.κ i ∧ g'.θ i = g.θ i) := by
  unfold buildSliceV at h
  split at h
  · rename_i elem hu
    split at h
    · rename_i s z hs hz
      split at h
      · rename_i hok
        obtain ⟨h0, h24, hel, hnz, hall⟩ := hok
        cases h
        obtain ⟨zv, hzr, hz2⟩ := run_zeroV hz w
        have hzv : VR g z zv := by rw [hz2]; exact ofVal_VR g zv
        have hzc := VC_of hzv hel
        have hzs : zv.cells.size = s := by have := hzc.ncells; rw [hnz] at this; simpa using this.symm
        have htile := tile_eq zv.cells (by omega) len
        have hrep : VRe g s (List.replicate len (stripAgg z)) ((Array.range (len * s)).map fun i => zv.cells[i % zv.cells.size]!).toList := by
          rw [hzs] at htile ⊢
          rw [htile]
          exact VRe_replicate hzc.stripAgg (by simpa using hzs) len
        obtain ⟨vs', hf, hv'⟩ := setAll_sound (len := len) hall hp (by simp) hrep
        have hsl := setAll_length ps (List.replicate len (stripAgg z))
        simp only [List.length_replicate] at hsl
        have hal := hG.alloc_row vs'.toList #[] elem (0, 0)
        simp only [Array.toArray_toList, Array.append_empty] at hal
        have h24' : ¬ (len * s > 2 ^ 24) := by omega
        refine ⟨.slice (some ⟨w.heap.size, 0, none⟩) len len, _, _, ?_, hal.2, ?_, hal.1, fun i => ⟨rfl, rfl⟩⟩
        · by_cases hl0 : len * s = 0
          · have hlen0 : len = 0 := by rcases Nat.mul_eq_zero.1 hl0 with h | h; exact h; omega
            subst hlen0
            simp only [Nat.zero_mul, Array.range_zero', Array.map_empty] at hf
            simp only [Instr.buildSlice, Sem.run_bind, run_underlying hu, Result.andThen_ok, run_szOf hs, h24', if_false, Nat.zero_mul, if_true, Sem.run_pure, Array.range_zero', Array.map_empty, hf, newRow, run_newObj]
            simp
          · simp only [Instr.buildSlice, Sem.run_bind, run_underlying hu, Result.andThen_ok, run_szOf hs, h24', if_false, hl0, hzr, Sem.run_pure, hf, newRow, run_newObj]
            rfl
        · refine ⟨some ⟨w.heap.size, 0, none⟩, len, vs'.toList, s, by rw [hsl], hv'.mono hal.2, by rw [hsl]; rfl, by rw [hsl]; exact Nat.le_refl _, fun _ => ⟨w.heap.size, 0, rfl, Ghost.row_withRow _ _⟩⟩
      · cases h
    · cases h
  · cases h
theorem buildSliceV_row (hG : GR g st w0 base w) {t : TypeId} {len : Nat} {ps : List (Nat × V)} {v : V} (h : buildSliceV C t len ps = some v) {qs : Array (Nat × Value)} (hp : PartsR g ps qs.toList) :
    ∃ (vs : Array Value) (elem : TypeId) (g' : Ghost), (Instr.buildSlice t len qs).run C.P w = .ok (.slice (some ⟨w.heap.size, 0, none⟩) len len) (w.alloc (.cells vs elem)) ∧ C.P.underlying t = some (.slice elem) ∧ g.le g' ∧ VR g' v (.slice (some ⟨w.heap.size, 0, none⟩) len len) ∧ (∀ fz, GR g' st w0 base (w.alloc (.cells vs elem fz))) ∧ (∀ i, g'.κ i = g.κ i ∧ g'.θ i = g.θ i) := by
  unfold buildSliceV at h
  split at h
  · rename_i elem hu
    split at h
    · rename_i s z hs hz
      split at h
      · rename_i hok
        obtain ⟨h0, h24, hel, hnz, hall⟩ := hok
        cases h
        obtain ⟨zv, hzr, hz2⟩ := run_zeroV hz w
        have hzv : VR g z zv := by rw [hz2]; exact ofVal_VR g zv
        have hzc := VC_of hzv hel
        have hzs : zv.cells.size = s := by have := hzc.ncells; rw [hnz] at this; simpa using this.symm
        have htile := tile_eq zv.cells (by omega) len
        have hrep : VRe g s (List.replicate len (stripAgg z)) ((Array.range (len * s)).map fun i => zv.cells[i % zv.cells.size]!).toList := by
          rw [hzs] at htile ⊢
          rw [htile]
          exact VRe_replicate hzc.stripAgg (by simpa using hzs) len
        obtain ⟨vs', hf, hv'⟩ := setAll_sound (len := len) hall hp (by simp) hrep
        have hsl := setAll_length ps (List.replicate len (stripAgg z))
        simp only [List.length_replicate] at hsl
        have hal := fun fz => hG.alloc_row vs'.toList #[] elem fz
        simp only [Array.toArray_toList, Array.append_empty] at hal
        have h24' : ¬ (len * s > 2 ^ 24) := by omega
        refine ⟨vs', elem, _, ?_, hu, (hal (0, 0)).2, ?_, fun fz => (hal fz).1, fun i => ⟨rfl, rfl⟩⟩
        · by_cases hl0 : len * s = 0
          · have hlen0 : len = 0 := by rcases Nat.mul_eq_zero.1 hl0 with h | h; exact h; omega
            subst hlen0
            simp only [Nat.zero_mul, Array.range_zero', Array.map_empty] at hf
            simp only [Instr.buildSlice, Sem.run_bind, run_underlying hu, Result.andThen_ok, run_szOf hs, h24', if_false, Nat.zero_mul, if_true, Sem.run_pure, Array.range_zero', Array.map_empty, hf, newRow, run_newObj]
            simp
          · simp only [Instr.buildSlice, Sem.run_bind, run_underlying hu, Result.andThen_ok, run_szOf hs, h24', if_false, hl0, hzr, Sem.run_pure, hf, newRow, run_newObj]
            rfl
        · refine ⟨some ⟨w.heap.size, 0, none⟩, len, vs'.toList, s, by rw [hsl], hv'.mono (hal (0, 0)).2, by rw [hsl]; rfl, by rw [hsl]; exact Nat.le_refl _, fun _ => ⟨w.heap.size, 0, rfl, Ghost.row_withRow _ _⟩⟩
      · cases h
    · cases h
  · cases h
end
end Go.Vm
/- What an operation yields by the evaluator, it yields in the model: operations that make memory, that write it, that append. -/
namespace Go.Vm
open Go Go.RowKit

section
variable {C : Cfg} {g : Ghost} {w : World} {st : St} {w0 : W0} {base : Nat}

theorem wrap_small {n : Int} (h0 : 0 ≤ n) (h : n < 2 ^ 62) : IntKind.i64.wrap n = n := by
  have e : n % (2 ^ 64 : Int) = n := Int.emod_eq_of_lt h0 (by omega)
  show (if (true && decide (n % (2 ^ 64 : Int) ≥ (2 ^ 63 : Int))) = true then n % (2 ^ 64 : Int) - 2 ^ 64 else n % (2 ^ 64 : Int)) = n
  rw [e, if_neg (by simp; omega)]

theorem bytesWorld_heap (w : World) (e : TypeId) (s : ByteArray) : (Lib.bytesWorld w e s).heap = (w.drew.alloc (.cells (Lib.bytesCells w e s) e ((Lib.bytesCells w e s).size, (Lib.bytesCells w e s).size + 1))).heap := by
  apply Array.ext_getElem?
  intro i
  rcases Nat.lt_trichotomy i w.heap.size with h | h | h
  · rw [Lib.bytesWorld_at_old w e s i h]
    exact (heap_old w.drew _ h).symm
  · subst h
    rw [Lib.bytesWorld_at_new]
    exact (heap_new w.drew _).symm
  · rw [Array.getElem?_eq_none (by rw [Lib.bytesWorld_size]; omega), Array.getElem?_eq_none (by simp; omega)]

theorem toByteCells (s : List UInt8) : VRe g 1 (ofBytes s) (s.map fun b => Value.int .u8 b.toNat) := by
  induction s with
  | nil => rfl
  | cons b s ih => exact VRe_cons.2 ⟨[.int .u8 b.toNat], _, rfl, rfl, rfl, ⟨_, rfl, rfl, rfl⟩, ih⟩

/-- Operations that make memory: the name that is told for them stands for it from now on. -/
theorem al_sound (hG : GR g st w0 base w) {ρ : Operand → V} {ρ' : Operand → Value} (hρ : ∀ x, VR g (ρ x) (ρ' x)) (o : Oper) {n : Nat} {v : V} {ob : Option Ob} (h : alOp C n ρ o.op = some (v, ob))
    (hob : ∀ x, ob = some x → hget st.H n = some x ∧ n < st.n ∧ g.κ n = none ∧ g.θ n = none) :
    ∃ v' w' g', (execOp ρ' o).run C.P w = .ok (.value v') w' ∧ g.le g' ∧ VR g' v v' ∧ GR g' st w0 base w' ∧ (∀ i, (i ≠ n ∨ ob = none) → g'.κ i = g.κ i ∧ g'.θ i = g.θ i) := by
  obtain ⟨dst, op, type, pos, after, guard⟩ := o
  simp only at h
  cases op <;> simp only [alOp, reduceCtorEq] at h
  case alloc t =>
    cases hz : zeroV C t with
    | none => rw [hz] at h; cases h
    | some z =>
      rw [hz, Option.bind_some] at h
      cases hc : cellsOf z with
      | none => rw [hc] at h; cases h
      | some cs =>
        rw [hc] at h; cases h
        obtain ⟨h1, h2, h3, h4⟩ := hob _ rfl
        obtain ⟨zv, hzr, hz2⟩ := run_zeroV hz w
        have hzv : VR g z zv := by rw [hz2]; exact ofVal_VR g zv
        obtain ⟨m1, m2⟩ := hG.mat_cells h1 h3 h4 h2 (cellsOf_VR hzv hc) t
        refine ⟨.pointer (some ⟨w.heap.size, 0, none⟩), _, _, ?_, m2, ⟨w.heap.size, by simp [Ghost.withκ], rfl⟩, m1, fun i hi => ⟨by simp [Ghost.withκ, hi.resolve_right (by simp)], rfl⟩⟩
        simp only [execOp, Instr.alloc, Sem.run_bind, hzr, Result.andThen_ok, newVar, newRow, run_newObj, Sem.run_pure]
        rfl
  case box t x =>
    cases hc : cellsOf (ρ x) with
    | none => rw [hc] at h; cases h
    | some cs =>
      rw [hc] at h; cases h
      obtain ⟨h1, h2, h3, h4⟩ := hob _ rfl
      obtain ⟨m1, m2⟩ := hG.mat_cells h1 h3 h4 h2 (cellsOf_VR (hρ x) hc) t
      refine ⟨.pointer (some ⟨w.heap.size, 0, none⟩), _, _, ?_, m2, ⟨w.heap.size, by simp [Ghost.withκ], rfl⟩, m1, fun i hi => ⟨by simp [Ghost.withκ, hi.resolve_right (by simp)], rfl⟩⟩
      simp only [execOp, Instr.box, Sem.run_bind, Result.andThen_ok, newVar, newRow, run_newObj, Sem.run_pure]
      rfl
  case buildSlice t len parts =>
    cases hb : buildSliceV C t len (parts.toList.map fun (i, x) => (i, ρ x)) with
    | none => rw [hb] at h; cases h
    | some u =>
      rw [hb] at h; cases h
      have hp : PartsR g (parts.toList.map fun (i, x) => (i, ρ x)) (parts.map fun (i, x) => (i, ρ' x)).toList := by rw [Array.toList_map]; exact PartsR.of hρ parts.toList
      obtain ⟨v', w', g', h1, h2, h3, h4, h5⟩ := buildSliceV_sound hG hb hp
      exact ⟨v', w', g', by simp only [execOp, Sem.run_bind, h1, Result.andThen_ok, Sem.run_pure], h2, h3, h4, fun i _ => h5 i⟩
  case makeMap t r =>
    cases r with
    | some x => cases h
    | none =>
      cases h
      obtain ⟨h1, h2, h3, h4⟩ := hob _ rfl
      obtain ⟨m1, m2⟩ := hG.mat_map h1 h3 h2 0
      refine ⟨.map (some w.heap.size), _, _, ?_, m2, ⟨w.heap.size, by simp [Ghost.withκ], rfl⟩, m1, fun i hi => ⟨by simp [Ghost.withκ, hi.resolve_right (by simp)], rfl⟩⟩
      simp only [execOp, Instr.makeMap, Option.map_none, Sem.run_bind, Result.andThen_ok, run_newObj, Sem.run_pure]
      rfl
  case convert s d x =>
    split at h
    · rename_i sd e l hs hd hx
      split at h
      · rename_i hu
        cases h
        obtain ⟨h1, h2, h3, h4⟩ := hob _ rfl
        have hxr := hρ x
        rw [hx] at hxr
        simp only [VR] at hxr
        have hrun := Lib.run_convert_string_bytes w s d e ⟨l.toArray⟩ hs hd (isU8_spec hu.1)
        have hge := grownCap_ge w l.length 0 e
        have hcells : Lib.bytesCells w e ⟨l.toArray⟩ = (l.map fun b => Value.int .u8 b.toNat).toArray ++ Array.replicate (grownCap w l.length 0 e - l.length) (.int .u8 0) := by
          unfold Lib.bytesCells
          rw [bytes_size]
          congr 1
          apply Array.toList_inj.1; simp
        have hlen : (Lib.bytesCells w e ⟨l.toArray⟩).size = grownCap w l.length 0 e := by rw [hcells]; simp; omega
        obtain ⟨m1, m2⟩ := hG.drew.mat_tip h1 h3 h4 h2 (l.map fun b => Value.int .u8 b.toNat) (Array.replicate (grownCap w l.length 0 e - l.length) (.int .u8 0)) e (grownCap w l.length 0 e, grownCap w l.length 0 e + 1)
          (tot := grownCap w l.length 0 e) (by simp; omega) (fun y hy => by simp at hy ⊢; omega)
        rw [← hcells] at m1
        have hsame := m1.same (w' := Lib.bytesWorld w e ⟨l.toArray⟩) (by rw [bytesWorld_heap, hlen]) rfl rfl rfl
        refine ⟨.slice (some ⟨w.heap.size, 0, none⟩) l.length (grownCap w l.length 0 e), _, _, ?_, m2, ?_, hsame, fun i hi => ⟨by simp [Ghost.withRow, Ghost.withκ, Ghost.withθ, hi.resolve_right (by simp)], by simp [Ghost.withRow, Ghost.withκ, Ghost.withθ, hi.resolve_right (by simp)]⟩⟩
        · simp only [execOp, hxr, Sem.run_bind, hrun, Result.andThen_ok, Sem.run_pure, bytes_size]
        · have hol : (ofBytes l).length = l.length := by simp [ofBytes]
          refine ⟨some ⟨w.heap.size, 0, none⟩, grownCap w l.length 0 e, l.map fun b => Value.int .u8 b.toNat, 1, by rw [hol], toByteCells l, ?_, by rw [hol]; exact hge, fun _ => ⟨w.heap.size, 0, rfl, ?_⟩⟩
          · refine ⟨w.heap.size, 0, rfl, by simp [Ghost.withRow, Ghost.withκ, Ghost.withθ], ?_⟩
            simp [Ghost.withRow, Ghost.withκ, Ghost.withθ, hol]
          · intro i u hu'
            simp only [Ghost.withRow, Ghost.withκ, Ghost.withθ, Nat.zero_add]
            rw [if_pos (show w.heap.size = w.drew.heap.size from rfl)]; exact hu'
      · cases h
    · cases h
  case makeSlice t l c =>
    split at h
    · rename_i e kl i kc j hu hl hc
      split at h
      · rename_i s zs hs hz
        split at h
        · rename_i hok
          obtain ⟨h0, hij, hs0, hzl, hby, h62⟩ := hok
          cases hzz : zeroV C e with
          | none => rw [hzz] at hz; cases hz
          | some z =>
            rw [hzz, Option.bind_some] at hz
            obtain ⟨zv, hzr, hz2⟩ := run_zeroV hzz w
            have hzv : VR g z zv := by rw [hz2]; exact ofVal_VR g zv
            have hzc := cellsOf_VR hzv hz
            have hzs : zv.cells.size = s := by have := hzc.length; simp only [Array.length_toList] at this; omega
            obtain ⟨inf, hi1, hi2⟩ := szOf_info hs
            have hbytes : byOf C e = inf.bytes := by simp [byOf, hi1]
            have hlr := hρ l
            have hcr := hρ c
            rw [hl] at hlr
            rw [hc] at hcr
            simp only [VR] at hlr hcr
            have hrun : ∀ (a : Array Value), a = ((Array.range (j.toNat * s)).map fun x => zv.cells[x % zv.cells.size]!) →
                (Instr.makeSlice t (.int kl i) (.int kc j)).run C.P w = .ok (.slice (some ⟨w.heap.size, 0, none⟩) i.toNat j.toNat) (w.alloc (.cells a e)) := by
              intro a ha
              have hw1 := wrap_small h0 (by omega)
              have hw2 := wrap_small (n := j) (by omega) h62
              have hbn : ¬ ((inf.bytes : Int) * j > 2 ^ 48) := by rw [hbytes, Int.mul_comm] at hby; omega
              have hcond : ¬ (((decide (j < 0) || decide ((inf.bytes : Int) * j > 2 ^ 48)) || decide (i < 0) || decide (i > j)) = true) := by
                simp only [Bool.or_eq_true, decide_eq_true_eq, not_or]
                exact ⟨⟨⟨by omega, hbn⟩, by omega⟩, by omega⟩
              simp only [Instr.makeSlice, Sem.run_bind, run_underlying hu, Result.andThen_ok, asInt, asIntOf, Sem.run_pure, typeInfo, run_program, hi1, hw1, hw2, hcond, Bool.false_eq_true, if_false, run_askRoom, run_szOf hs]
              by_cases hn0 : j.toNat * s = 0
              · simp only [hn0, if_true, Sem.run_pure, Result.andThen_ok, newRow, run_newObj, Sem.run_bind]
                rw [ha, hn0]
                simp [Array.range_zero']
              · simp only [hn0, if_false, Sem.run_bind, hzr, Sem.run_pure, Result.andThen_ok, newRow, run_newObj]
                rw [ha]
                rfl
            split at h
            · rename_i hijE
              subst hijE
              cases h
              obtain ⟨h1, h2, h3, h4⟩ := hob _ rfl
              have htile := tile_eq zv.cells (by omega) i.toNat
              rw [hzs] at htile
              have hv : VRs g (List.replicate i.toNat zs).flatten ((Array.range (i.toNat * s)).map fun x => zv.cells[x % zv.cells.size]!).toList := by
                rw [hzs, htile]; exact VRs_replicate hzc _
              obtain ⟨m1, m2⟩ := hG.mat_cells h1 h3 h4 h2 hv e
              refine ⟨.slice (some ⟨w.heap.size, 0, none⟩) i.toNat i.toNat, _, _, ?_, m2, ⟨w.heap.size, by simp [Ghost.withκ], _, rfl, Nat.le_refl _, .inl ⟨rfl, by unfold unk; omega⟩⟩, m1, fun k hk => ⟨by simp [Ghost.withκ, hk.resolve_right (by simp)], rfl⟩⟩
              simp only [execOp, hlr, hcr, Sem.run_bind, hrun _ rfl, Result.andThen_ok, Sem.run_pure]
            · split at h
              · rename_i hi0
                subst hi0
                cases h
                obtain ⟨h1, h2, h3, h4⟩ := hob _ rfl
                obtain ⟨m1, m2⟩ := hG.mat_tip h1 h3 h4 h2 [] ((Array.range (j.toNat * s)).map fun x => zv.cells[x % zv.cells.size]!) e (0, 0) (tot := j.toNat * s) (by simp) (fun y _ hy => by simp at hy)
                simp only [List.nil_append, Array.empty_append] at m1
                refine ⟨.slice (some ⟨w.heap.size, 0, none⟩) 0 j.toNat, _, _, ?_, m2, ?_, m1, fun k hk => ⟨by simp [Ghost.withRow, Ghost.withκ, Ghost.withθ, hk.resolve_right (by simp)], by simp [Ghost.withRow, Ghost.withκ, Ghost.withθ, hk.resolve_right (by simp)]⟩⟩
                · simp only [execOp, hlr, hcr, Sem.run_bind, hrun _ rfl, Result.andThen_ok, Sem.run_pure]
                  rfl
                · refine ⟨some ⟨w.heap.size, 0, none⟩, j.toNat, [], s, rfl, rfl, ⟨w.heap.size, 0, rfl, by simp [Ghost.withRow, Ghost.withκ, Ghost.withθ], by simp [Ghost.withRow, Ghost.withκ, Ghost.withθ]⟩, Nat.zero_le _, fun h => absurd rfl h⟩
              · cases h
        · cases h
      · cases h
    · cases h
end
end Go.Vm
