/- Regions whose order is open: words on single operations. -/
import Derived.Test.YtklcmgodhpediaaGreatDoorN11
set_option linter.unusedSimpArgs false
set_option linter.unusedVariables false
namespace Go.Vm
open Go Go.RowKit

section
variable {C : Cfg}

theorem mapCongr {ρ ρ2 : Operand → V} {l : List (Nat × Operand)} (h : ∀ x ∈ l.map (·.2), ρ x = ρ2 x) : (l.map fun (i, x) => (i, ρ x)) = l.map fun (i, x) => (i, ρ2 x) := by
  apply List.map_congr_left
  intro p hp
  obtain ⟨i, x⟩ := p
  simp only [h x (List.mem_map.2 ⟨(i, x), hp, rfl⟩)]

theorem rdOp_congr {H : List (Nat × Ob)} {ρ ρ2 : Operand → V} {op : Op} (h : ∀ x ∈ op.operands, ρ x = ρ2 x) : rdOp C H ρ op = rdOp C H ρ2 op := by
  cases op <;> simp only [rdOp] <;> simp only [Op.operands] at h
  case move x => rw [h x (by simp)]
  case assign x => rw [h x (by simp)]
  case pick c a b => rw [h c (by simp), h a (by simp), h b (by simp)]
  case build t ps => rw [mapCongr (ρ := ρ) (ρ2 := ρ2) fun x hx => h x (by simpa using hx)]
  case load t x => rw [h x (by simp)]
  case nilCheck x => rw [h x (by simp)]
  case binOp op t x y yt => rw [h x (by simp), h y (by simp)]
  case unOp op t x => rw [h x (by simp)]
  case convert s d x => rw [h x (by simp)]
  case makeInterface t x => rw [h x (by simp)]
  case makeFunc fn first captured =>
    rw [List.map_congr_left (l := first.toList) (f := ρ) (g := ρ2) fun x hx => h x (by simp; exact .inl (by simpa using hx)),
      List.map_congr_left (l := captured.toList) (f := ρ) (g := ρ2) fun x hx => h x (by simp; exact .inr (by simpa using hx))]
  case slice t x lo hi mx =>
    cases mx with
    | some m =>
      cases hi with
      | none => rfl
      | some y =>
        simp only
        rw [h x (by simp), h y (by simp), h m (by simp)]
        have e1 : lo.map ρ = lo.map ρ2 := by cases lo with | none => rfl | some y => simp only [Option.map_some]; rw [h y (by simp)]
        rw [e1]
    | none =>
      simp only
      rw [h x (by simp)]
      have e1 : lo.map ρ = lo.map ρ2 := by cases lo with | none => rfl | some y => simp only [Option.map_some]; rw [h y (by simp)]
      have e2 : hi.map ρ = hi.map ρ2 := by cases hi with | none => rfl | some y => simp only [Option.map_some]; rw [h y (by simp)]
      rw [e1, e2]
  case fieldAddr t x i => rw [h x (by simp)]
  case field t x i => rw [h x (by simp)]
  case indexAddr t x y => rw [h x (by simp), h y (by simp)]
  case index t x y => rw [h x (by simp), h y (by simp)]
  case lookup t x y ok => rw [h x (by simp), h y (by simp)]
  case extract x i => rw [h x (by simp)]
  case call c =>
    obtain ⟨callee, args, argTypes⟩ := c
    cases callee <;> try rfl
    rename_i b
    cases b <;> try rfl
    simp only
    split
    · rename_i x t ha ht
      rw [h x]
      have : x ∈ args.toList := by rw [ha]; simp
      simp [Call.operands]
      simpa using this
    · rfl

theorem alOp_congr {n : Nat} {ρ ρ2 : Operand → V} {op : Op} (h : ∀ x ∈ op.operands, ρ x = ρ2 x) : alOp C n ρ op = alOp C n ρ2 op := by
  cases op <;> simp only [alOp] <;> simp only [Op.operands] at h
  case box t x => rw [h x (by simp)]
  case buildSlice t len ps => rw [mapCongr (ρ := ρ) (ρ2 := ρ2) fun x hx => h x (by simpa using hx)]
  case makeMap t r => cases r <;> rfl
  case convert s d x => rw [h x (by simp)]
  case makeSlice t l c => rw [h l (by simp), h c (by simp)]

/-- More names change no reading. -/
theorem hgetM_mono {H H' : List (Nat × Ob)} (hs : ∀ b o, hget H b = some o → hget H' b = some o) {b : Nat} {es : List (V × V)} (h : hgetM H b = some es) : hgetM H' b = some es := by
  unfold hgetM at h ⊢
  cases hg : hget H b with
  | none => rw [hg] at h; cases h
  | some ob => rw [hg] at h; rw [hs _ _ hg]; exact h
theorem rdOp_mono {H H' : List (Nat × Ob)} (hs : ∀ b o, hget H b = some o → hget H' b = some o) {ρ : Operand → V} {op : Op} {v : V} (h : rdOp C H ρ op = some v) : rdOp C H' ρ op = some v := by
  cases op <;> simp only [rdOp, reduceCtorEq] at h ⊢ <;> (first | exact h | skip)
  case load t x =>
    unfold loadV at h ⊢
    split at h
    · exact h
    · split at h
      · rename_i hg; rw [hs _ _ hg]; exact h
      · cases h
    · cases h
  case convert s d x =>
    unfold convV at h ⊢
    split at h
    · exact h
    · exact h
    · split at h
      · rename_i hg; simp only [hs _ _ hg]; exact h
      · cases h
    · exact h
    · exact h
    · cases h
  case slice t x lo hi mx => cases mx <;> cases hi <;> exact h
  case lookup t x y ok =>
    unfold lookupV at h ⊢
    split at h
    · split at h
      · split at h
        · rename_i h4
          rw [if_pos h4]
          cases hx : ρ x <;> rw [hx] at h <;> (first | (cases h; done) | skip)
          · rename_i b
            simp only at h ⊢
            cases hg : hgetM H b with
            | none => rw [hg] at h; cases h
            | some ob => rw [hg] at h; rw [hgetM_mono hs hg]; exact h
          · exact h
        · cases h
      · cases h
    · cases h
  case call c =>
    obtain ⟨callee, args, argTypes⟩ := c
    cases callee <;> (first | (cases h; done) | skip)
    rename_i b
    cases b <;> (first | (cases h; done) | skip)
    simp only at h ⊢
    split at h
    · unfold lenV at h ⊢
      split at h
      · exact h
      · exact h
      · exact h
      · exact h
      · exact h
      · split at h
        · rename_i hg; simp only [hgetM_mono hs hg]; exact h
        · cases h
      · cases h
    · cases h

theorem rdOp_noheap {H H' : List (Nat × Ob)} {ρ : Operand → V} {op : Op} (hh : heapDep op = false) : rdOp C H ρ op = rdOp C H' ρ op := by
  cases op <;> (first | (simp [heapDep] at hh; done) | rfl | skip)
  case slice t x lo hi mx => cases mx <;> cases hi <;> rfl
  case call c =>
    obtain ⟨callee, args, argTypes⟩ := c
    cases callee <;> (first | rfl | skip)
    rename_i b
    cases b <;> (first | rfl | skip)
    simp [heapDep] at hh

theorem alOp_noheap {n : Nat} {ρ : Operand → V} {op : Op} {v : V} {ob : Option Ob} (hh : heapDep op = false) (h : alOp C n ρ op = some (v, ob)) : ob = none ∧ ∀ m, alOp C m ρ op = some (v, ob) := by
  cases op <;> (first | (simp [heapDep] at hh; done) | (cases h; done) | skip)
  case buildSlice t len ps =>
    refine ⟨?_, fun m => h⟩
    simp only [alOp] at h
    cases hb : buildSliceV C t len (ps.toList.map fun (i, x) => (i, ρ x)) with
    | none => rw [hb] at h; cases h
    | some u => rw [hb] at h; cases h; rfl

theorem rd_al_disj {H : List (Nat × Ob)} {n : Nat} {ρ : Operand → V} {op : Op} {v : V} (h : rdOp C H ρ op = some v) : alOp C n ρ op = none := by
  cases op <;> (first | rfl | (cases h; done) | skip)
  case convert s d x =>
    simp only [rdOp, convV] at h
    simp only [alOp]
    split at h
    · rename_i h1 h2 h3; simp only [h1, h2, h3]
    · rename_i h1 h2 h3; simp only [h1, h2, h3]
    · rename_i h1 h2 h3; simp only [h1, h2, h3]
    · rename_i h1 h2 h3; simp only [h1, h2, h3]
    · rename_i h1 h2 h3; simp only [h1, h2, h3]
    · cases h

/-- The name that a value of new memory bears. -/
def nameOf : V → Option Nat
  | .ptr n 0 | .map n | .msl n 0 _ _ | .sl (.own n) _ => some n
  | _ => none

theorem al_name {n : Nat} {ρ : Operand → V} {op : Op} {v : V} {ob : Ob} (h : alOp C n ρ op = some (v, some ob)) : nameOf v = some n := by
  cases op <;> (first | (cases h; done) | skip) <;> simp only [alOp] at h
  case alloc t =>
    cases hz : zeroV C t with
    | none => rw [hz] at h; cases h
    | some z =>
      rw [hz, Option.bind_some] at h
      cases hc : cellsOf z with
      | none => rw [hc] at h; cases h
      | some cs => rw [hc] at h; cases h; rfl
  case box t x =>
    cases hc : cellsOf (ρ x) with
    | none => rw [hc] at h; cases h
    | some cs => rw [hc] at h; cases h; rfl
  case buildSlice t len ps =>
    cases hb : buildSliceV C t len (ps.toList.map fun (i, x) => (i, ρ x)) with
    | none => rw [hb] at h; cases h
    | some u => rw [hb] at h; cases h
  case makeMap t r => cases r <;> cases h; rfl
  case convert s d x =>
    split at h
    · split at h
      · cases h; rfl
      · cases h
    · cases h
  case makeSlice t l c =>
    split at h
    · split at h
      · split at h
        · split at h
          · cases h; rfl
          · split at h
            · cases h; rfl
            · cases h
        · cases h
      · cases h
    · cases h

/-- Another frame, the same temporaries that are looked at. -/
theorem evalO_same {ops : Array Oper} {o : Oper} {f f' : Fr} (h : ∀ t ∈ o.looksAt ops, tget f'.t t = tget f.t t) : ∀ x ∈ o.op.operands, evalO C f' x = evalO C f x := by
  intro x hx
  cases x with
  | tmp t => exact h t (List.mem_append_left _ (List.mem_filterMap.2 ⟨.tmp t, by simpa using hx, rfl⟩))
  | _ => rfl

theorem wantedV_same {ops : Array Oper} {o : Oper} {f f' : Fr} (h : ∀ t ∈ o.looksAt ops, tget f'.t t = tget f.t t) : wantedV f' ops o = wantedV f ops o := by
  unfold wantedV
  cases hg : o.guard with
  | none => rfl
  | some gw =>
    obtain ⟨j, want⟩ := gw
    simp only
    cases hd : (ops[j]?).bind (·.dst) with
    | none => rfl
    | some d =>
      simp only
      rw [h d (by simp [Oper.looksAt, hg, hd])]

/-- What is looked at is known. -/
noncomputable def masked (C : Cfg) (f : Fr) (op : Op) (x : Operand) : V := by
  classical
  exact if x ∈ op.operands then evalO C f x else .any

theorem masked_eq {f : Fr} {op : Op} : ∀ x ∈ op.operands, evalO C f x = masked C f op x := by
  intro x hx
  unfold masked
  classical
  rw [if_pos hx]

theorem masked_VR {g : Ghost} {f : Fr} {a : Act} {ops : Array Oper} {o : Oper} {w0 : W0} {base : Nat} (hg : GlobR C g w0 base) (h : ∀ t ∈ o.looksAt ops, VR g (tget f.t t) (a.tmps.getD t undef)) (x : Operand) : VR g (masked C f o.op x) (a.eval x) := by
  unfold masked
  classical
  split
  · rename_i hx
    cases x with
    | tmp t => exact h t (List.mem_append_left _ (List.mem_filterMap.2 ⟨.tmp t, by simpa using hx, rfl⟩))
    | const v => exact ofVal_VR g v
    | global i => exact hg.vr i
    | func k => exact ⟨#[], #[], rfl, rfl, rfl⟩
  · trivial

theorem wrOp_congr {K : FuncId → List V → St → Option (V × St)} {st : St} {ρ ρ2 : Operand → V} {op : Op} (h : ∀ x ∈ op.operands, ρ x = ρ2 x) : wrOp C K ρ st op = wrOp C K ρ2 st op := by
  cases op <;> simp only [wrOp] <;> simp only [Op.operands] at h
  case store t x y => rw [h x (by simp), h y (by simp)]
  case mapUpdate t m k y => rw [h m (by simp), h k (by simp), h y (by simp)]
  case insert t m k y => rw [h m (by simp), h k (by simp), h y (by simp)]
  case binOp op t x y yt => rw [h x (by simp)]
  case range t x => rw [h x (by simp)]
  case next it s => cases s <;> simp only [wrOp]; rw [h it (by simp)]
  case entry it => rw [h it (by simp)]
  case call c =>
    obtain ⟨callee, args, argTypes⟩ := c
    have hargs : args.toList.map ρ = args.toList.map ρ2 := List.map_congr_left fun x hx => h x (by simp [Call.operands]; right; simpa using hx)
    cases callee
    case value q =>
      simp only
      rw [h q (by simp [Call.operands]), hargs]
    case invoke r name =>
      simp only
      rw [h r (by simp [Call.operands]), hargs]
    case builtin b =>
      cases b <;> try rfl
      simp only
      split
      · rename_i x y t u ha ht
        have hx : x ∈ args.toList := by rw [ha]; simp
        have hy : y ∈ args.toList := by rw [ha]; simp
        rw [h x (by simp [Call.operands]; simpa using hx), h y (by simp [Call.operands]; simpa using hy)]
      · rfl

theorem quietOp_masked {f : Fr} {st : St} {op : Op} : quietOp C f st op = (match rdOp C st.H (masked C f op) op with
    | some v => some (v, st)
    | none => match alOp C st.n (masked C f op) op with
      | some (v, ob) => some (v, st.add ob)
      | none => none) := by
  unfold quietOp
  rw [rdOp_congr (ρ := evalO C f) (ρ2 := masked C f op) masked_eq, alOp_congr (ρ := evalO C f) (ρ2 := masked C f op) masked_eq]
  rfl
end
end Go.Vm
