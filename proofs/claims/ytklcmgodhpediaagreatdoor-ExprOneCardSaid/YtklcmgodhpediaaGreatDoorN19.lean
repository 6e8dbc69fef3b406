/- A law: it answers true, and its arguments read as they did. -/
import Derived.Test.YtklcmgodhpediaaGreatDoorN18
set_option linter.unusedSimpArgs false
set_option linter.unusedVariables false
namespace Go.Vm
open Go Go.RowKit Go.ChangeShapes

section
variable {P : Program} {H : Type} {enc : TypeId × Value → H}

theorem trodAll_length {w : World} {base : Nat} {spare : Nat → Bool} {held : Bool} : ∀ {ts : List TypeId} {vs : List Value} {ds : List (DataW H)} {ps : List MemPlace}, DataW.TrodAll enc P w base spare held ts vs ds ps → vs.length = ts.length ∧ ds.length = ts.length
  | [], [], [], _, _ => ⟨rfl, rfl⟩
  | t :: ts, v :: vs, d :: ds, _, ⟨_, _, _, h, _⟩ => by have := trodAll_length h; simp [this.1, this.2]
  | [], [], _ :: _, _, h => h.elim
  | [], _ :: _, _, _, h => h.elim
  | _ :: _, [], _, _, h => h.elim
  | _ :: _, _ :: _, [], _, h => h.elim

/-- Arguments read behind the call as they did, if below the old size nothing has turned. -/
theorem trodAll_stays (hl : laidOutB P = true) {W W' : World} (hb : Below W.heap.size W W') : ∀ {ts : List TypeId} {vs : List Value} {ds : List (DataW H)} {ps : List MemPlace}, (ts.all fun t => P.readableRec t && decide (t < P.types.size)) = true →
    DataW.TrodAll enc P W 0 (fun _ => true) true ts vs ds ps → (∀ x ∈ ps, x.block < W.heap.size) → ∀ sp : Nat → Bool, (∀ x ∈ ps, sp x.block = true) → DataW.TrodAll enc P W' 0 sp true ts vs ds ps
  | [], [], [], _, _, h, _, _, _ => h
  | t :: ts, v :: vs, d :: ds, _, hts, ⟨p, q, h1, h2, e⟩, hlt, sp, hsp => by
    subst e
    simp only [List.all_cons, Bool.and_eq_true, decide_eq_true_eq] at hts
    exact ⟨p, q, WideElems.Trod_stays hl hts.1.1 hts.1.2 h1 (fun x hx => hb.same (hlt x (List.mem_append_left _ hx))) (fun x hx => hsp x (List.mem_append_left _ hx)),
      trodAll_stays hl hb hts.2 h2 (fun x hx => hlt x (List.mem_append_right _ hx)) sp (fun x hx => hsp x (List.mem_append_right _ hx)), rfl⟩
  | [], [], _ :: _, _, _, h, _, _, _ => h.elim
  | [], _ :: _, _, _, _, h, _, _, _ => h.elim
  | _ :: _, [], _, _, _, h, _, _, _ => h.elim
  | _ :: _, _ :: _, [], _, _, h, _, _, _ => h.elim

/-- Arguments that come in. -/
def WfA (P : Program) (r : Nat) : List TypeId → List V → Prop
  | [], avs => avs = []
  | t :: ts, avs => ∃ n cs as, avs = packE P t cs :: as ∧ Wf P r n t cs ∧ WfA P r ts as

/-- What a reading gives the evaluator. -/
theorem trodAll_Wf {T : List TypeId} {r : Nat} (hl : tysOk P T = true) {w : World} {base b0 : Nat} {spare : Nat → Bool} {held : Bool} : ∀ {ts : List TypeId} {vs : List Value} {ds : List (DataW H)} {ps : List MemPlace}, (ts.all fun t => T.contains t) = true →
    (∀ (j : Nat) (t : TypeId) (v : Value), ts[j]? = some t → vs[j]? = some v → Value.okWide P w .any b0 t v) → DataW.TrodAll enc P w base spare held ts vs ds ps → (∀ n ∈ DataW.weightsEach P ts ds, n ≤ r) →
    ∃ avs : List V, WfA P r ts avs ∧ VRl (Ghost.of w) avs vs ∧ vbulks avs ≤ dbulkAll ds
  | [], [], [], _, _, _, _, _ => ⟨[], rfl, rfl, Nat.le_refl _⟩
  | t :: ts, v :: vs, d :: ds, _, hts, hval, ⟨p, q, ⟨fuel, h1⟩, h2, e⟩, hw => by
    simp only [List.all_cons, Bool.and_eq_true, List.contains_iff_mem] at hts
    simp only [DataW.weightsEach, List.mem_append] at hw
    obtain ⟨cs, k1, k2, _, k3⟩ := trod_Wf hl fuel t _ _ hts.1 h1 (fun n hn => hw n (.inl hn))
    obtain ⟨avs, l1, l2, l3⟩ := trodAll_Wf hl hts.2 (fun j t' v' a b => hval (j + 1) t' v' (by simpa using a) (by simpa using b)) h2 (fun n hn => hw n (.inr hn))
    refine ⟨packE P t cs :: avs, ⟨fuel, cs, avs, rfl, k1, l1⟩, ⟨v, vs, rfl, ?_, l2⟩, by simp only [vbulks, dbulkAll]; simp only [] at k3; omega⟩
    have hv := hval 0 t v rfl rfl
    have h3 := trod_one held h1
    have one : v.cells.toList.length = 1 → (∀ xs, v ≠ .agg xs) → VR (Ghost.of w) (cs.headD .any) v := by
      intro hl hne
      have hc : v.cells.toList = [v] := by cases v <;> first | rfl | exact absurd rfl (hne _)
      rw [hc] at k2
      match cs, k2 with
      | [], k2 => simp only [VRs] at k2; cases k2
      | c :: cs, k2 =>
        obtain ⟨u, us, e, _, h5, _⟩ := k2
        simp only [List.cons.injEq] at e
        obtain ⟨rfl, _⟩ := e
        exact h5
    unfold Value.okWide at hv
    unfold packE
    split at hv
    · rename_i fs hu
      obtain ⟨xs, rfl, _⟩ := hv
      rw [hu]
      exact ⟨xs, rfl, k2⟩
    · rename_i m e hu
      obtain ⟨xs, rfl, _⟩ := hv
      rw [hu]
      exact ⟨xs, rfl, k2⟩
    · rename_i hn1 hn2
      split at h3
      · rename_i fs hu; exact absurd hu (hn1 fs)
      · rename_i m e hu; exact absurd hu (hn2 m e)
      · refine one h3.1 fun xs hx => ?_
        subst hx
        unfold Cell.okWide at hv
        split at hv <;> simp_all [Cell.ok]
  | [], [], _ :: _, _, _, _, h, _ => h.elim
  | [], _ :: _, _, _, _, _, h, _ => h.elim
  | _ :: _, [], _, _, _, _, h, _ => h.elim
  | _ :: _, _ :: _, [], _, _, _, h, _ => h.elim

/-- The law's post. -/
theorem post_true {f : Func} {s : ChangeSpec} {apart fresh handsOn again : Bool} {W W' : World} {args : Array Value} {ds : List (DataW H)} {before : List MemPlace} {tb : TypeId}
    (hl : laidOutB P = true) (hts : (f.params.toList.all fun t => P.readableRec t && decide (t < P.types.size)) = true) (hv : s.vars = []) (hrt : f.resultTypes = #[tb]) (htb : P.underlying tb = some .bool)
    (hW : DataW.Whole enc P f.params.toList s.vars apart W args.toList ds [] before) (hfn : s.fn H ds = { results := [.lit (.bool true)], args := ds }) (hB : Below W.heap.size W W') :
    s.post enc P f apart fresh handsOn again W args (.bool true) W' := by
  have hlt := hW.lt
  have hW0 := hW
  obtain ⟨p, q, hA, hV, hbe, hz, hn⟩ := hW
  rw [hv] at hV
  obtain rfl : q = [] := hV
  simp only [List.append_nil] at hbe
  subst hbe
  have hargs : ∀ sp : Nat → Bool, (∀ x ∈ before, sp x.block = true) → DataW.TrodAll enc P W' 0 sp true f.params.toList args.toList ds before := fun sp hsp => trodAll_stays hl hB hts hA hlt sp hsp
  have hres : ∀ (b : Nat) (sp : Nat → Bool) (hd : Bool), DataW.TrodAll enc P W' b sp hd f.resultTypes.toList ((Value.bool true).resultList f.resultTypes.size) [.lit (.bool true)] [] := fun b sp hd => by
    rw [hrt]
    exact ⟨[], [], shut_bool htb _, rfl, rfl⟩
  have hold : ∀ x ∈ before, (fun b => decide (b < W.heap.size)) x.block = true := fun x hx => by simpa using hlt x hx
  refine ⟨ds, [], before, [], before, [], hW0, ?_, ?_, ?_, hB.frame _, fun _ => ⟨?_, [.lit (.bool true)] ++ ds, [], before, ⟨[] ++ before, [], trodAll_append (hargs _ (fun _ _ => rfl)) (hres _ _ _), ?_, by simp, ?_, ?_⟩, ?_⟩⟩
  · simp only [List.append_nil, hfn]; exact hres _ _ _
  · simp only [List.append_nil, hfn]; exact hargs _ hold
  · simp only [List.append_nil, hfn, hv]; rfl
  · exact ok_one hrt rfl (okWide_bool_mk htb _)
  · rw [hv]; rfl
  · intro b off hp
    rw [hB.frozen (hlt _ hp)]
    exact hz b off hp
  · intro ha; simpa using hn ha
  · intro x hx _; exact hx
end

section
variable {C : Cfg}

theorem GR_start (W : World) : GR (Ghost.of W) ⟨[], 0⟩ ⟨W, (Ghost.of W).st⟩ W.heap.size W :=
  ⟨Below.refl _ _, Nat.le_refl _, fun _ _ _ h => h, fun i ob B hi _ => by simp [hget] at hi, fun i j oi oj B hi _ _ _ => by simp [hget] at hi, fun i ob B hi => by simp [hget] at hi, fun _ _ => ⟨rfl, rfl⟩, List.Pairwise.nil, fun p hp => (by cases hp), fun _ _ _ => rfl⟩

/-- What the evaluator says of a law holds of its call. -/
theorem law_calls (hC : COk C) (hP : GlobPure C) (hX : XOk C) {W : World} (hg : GlobR C (Ghost.of W) ⟨W, (Ghost.of W).st⟩ W.heap.size) {k : FuncId} {args : Array Value} {avs : List V} (ha : VRl (Ghost.of W) avs args.toList) (h : Fn C k avs ⟨[], 0⟩ fun v _ => v = .bool true) :
    Calls C.P k args W fun e W' => e = .returned (.bool true) ∧ Below W.heap.size W W' :=
  (h.sound hC hP hX (GR_start W) hg ha).mono fun e W' ⟨v, st', v', g', hq, he, hv, hG⟩ => by
    subst hq
    simp only [VR] at hv
    subst hv
    exact ⟨he, hG.below⟩
end
end Go.Vm
