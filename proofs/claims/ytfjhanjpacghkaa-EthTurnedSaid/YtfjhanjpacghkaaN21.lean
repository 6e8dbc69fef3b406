/- Functions that are known by what they answer; a law's contract. -/
import Derived.Test.YtfjhanjpacghkaaN20
import Derived.Lib.Join
set_option linter.unusedSimpArgs false
set_option linter.unusedVariables false
namespace Go.Vm
open Go Go.RowKit Go.ChangeShapes

/-- New blocks alone. -/
theorem GR.later {g : Ghost} {st : St} {w0 : W0} {base : Nat} {w w' : World} (h : GR g st w0 base w) (hb : Below w.heap.size w w') : GR g st w0 base w' :=
  ⟨h.below.trans (hb.mono h.lim0), Nat.le_trans h.lim0 hb.size, fun B o v hv => (hb.cell (p := ⟨B, o, none⟩) (h.st_lt hv)).trans (h.stab B o v hv),
    fun i ob B h1 h2 => (h.obj i ob B h1 h2).keep (Ghost.le.refl g) (hb.block B (h.obj i ob B h1 h2).lt) (fun _ x => x), h.excl, h.old, h.lim, h.sorted, h.top, h.lo⟩

/-- A call that makes new blocks alone, and answers what names none of them. -/
theorem AC_of {C : Cfg} (hC : COk C) {k : FuncId} {args : List V} {st : St} {v : V} (hf : ∃ fn, C.P.funcs[k]? = some fn ∧ fn.body.isSome = true)
    (h : ∀ (g : Ghost) (w : World) (args' : Array Value), (∀ B o u, g.st B o = some u → w.cell? ⟨B, o, none⟩ = some u) → (∀ i, VR g (C.glob i) (.pointer (some ⟨i, 0, none⟩))) → C.I w → VRl g args args'.toList →
      Calls C.P k args' w fun e w' => ∃ v', e = .returned v' ∧ VR g v v' ∧ Below w.heap.size w w') : AC C k args st v st :=
  ⟨Nat.le_refl _, hf, fun g w0 base w args' hG hgl ha => (h g w args' hG.stab hgl.vr (hC.inv _ _ (fun k hk => hG.below.block k (Nat.lt_of_lt_of_le hk hgl.lo)) hgl.inv) ha).mono fun e w' ⟨v', he, hv, hb⟩ => ⟨v', g, he, Ext.refl _ _, hv, hG.later hb⟩⟩

/-- Texts as elements. -/
theorem VRe_strs {g : Ghost} {S : Nat} : ∀ {l : List (List UInt8)} {vs : List Value}, VRe g S (l.map .str) vs → vs = l.map (fun s => .string ⟨s.toArray⟩)
  | [], vs, h => by simpa only [List.map_nil, VRe] using h
  | s :: l, vs, h => by
    rw [List.map_cons] at h
    obtain ⟨ch, vs', rfl, _, _, ⟨v, rfl, _, h3⟩, h4⟩ := VRe_cons.1 h
    simp only [VR] at h3
    rw [VRe_strs h4, h3]; rfl

theorem join_ok {C : Cfg} (hC : COk C) {k : FuncId} (hf : ∃ fn, C.P.funcs[k]? = some fn ∧ fn.body.isSome = true)
    (h0 : ∀ (a : Option Addr) (c : Nat) (sep : ByteArray) (w : World), Calls C.P k #[.slice a 0 c, .string sep] w fun e w' => e = .returned (.string ⟨#[]⟩) ∧ w' = w)
    (h1 : ∀ (bk o c : Nat) (xs : List ByteArray) (sep : ByteArray) (w : World), (∀ (j : Nat) x, xs[j]? = some x → w.cell? ⟨bk, o + j, none⟩ = some (.string x)) → bk < w.heap.size → xs.length ≤ 140737488355328 → xs.length ≤ c →
      (Lib.join (xs.map (·.data.toList)) sep.data.toList).length ≤ 140737488355328 →
      Calls C.P k #[.slice (some ⟨bk, o, none⟩) xs.length c, .string sep] w fun e w' => e = .returned (.string ⟨(Lib.join (xs.map (·.data.toList)) sep.data.toList).toArray⟩) ∧ Below w.heap.size w w')
    {tip : Tip} {l : List (List UInt8)} {sep : List UInt8} {st : St} (hl : (Lib.join l sep).length ≤ 1048576) (hn : l.length ≤ 1048576) :
    AC C k [.sl tip (l.map .str), .str sep] st (.str (Lib.join l sep)) st := by
  refine AC_of hC hf fun g w args' hst _ _ ha => ?_
  obtain ⟨v0, r0, e0, hv0, v1, r1, e1, hv1, e2⟩ := ha
  subst e2; subst e1
  obtain rfl : args' = #[v0, v1] := by cases args'; simp_all
  simp only [VR] at hv1
  obtain ⟨a, cap, vs, S, rfl, h2, _, h4, h5⟩ := hv0
  subst hv1
  cases l with
  | nil => exact (h0 a cap ⟨sep.toArray⟩ w).mono fun e w' ⟨he, hw⟩ => ⟨_, he, by simp [VR, Lib.join_nil], hw ▸ Below.refl _ _⟩
  | cons s l =>
    obtain ⟨B, o, rfl, hrow⟩ := h5 (by simp)
    have hvs := VRe_strs h2
    have hcell : ∀ (j : Nat) x, ((s :: l).map fun s => (⟨s.toArray⟩ : ByteArray))[j]? = some x → w.cell? ⟨B, o + j, none⟩ = some (.string x) := fun j x hx => by
      refine hst _ _ _ (hrow j _ ?_)
      rw [hvs]
      simp only [List.getElem?_map, Option.map_eq_some_iff] at hx ⊢
      obtain ⟨y, hy, rfl⟩ := hx
      exact ⟨y, hy, rfl⟩
    have hm : ((s :: l).map fun s => (⟨s.toArray⟩ : ByteArray)).map (·.data.toList) = s :: l := by
      rw [List.map_map]
      exact (List.map_congr_left (fun x _ => by simp)).trans (List.map_id _)
    have hB : B < w.heap.size := lt_of_cell (hcell 0 _ rfl)
    have := h1 B o cap ((s :: l).map fun s => (⟨s.toArray⟩ : ByteArray)) ⟨sep.toArray⟩ w hcell hB (by simp only [List.length_map]; omega) (by simpa using h4) (by rw [hm]; simpa using (by omega : (Lib.join (s :: l) sep).length ≤ 140737488355328))
    rw [hm] at this
    simp only [List.length_map] at this ⊢
    refine this.mono fun e w' ⟨he, hb⟩ => ⟨_, he, ?_, hb⟩
    simp [VR]

section
variable {C : Cfg} {H : Type} {enc : TypeId × Value → H}

/-- **A law's contract: what the evaluator answers at all arguments.** -/
theorem law_contract (hC : COk C) (hP : GlobPure C) (hX : XOk C) {k : FuncId} {f : Func} {s : ChangeSpec} {apart fresh handsOn again : Bool} {tb : TypeId} {T : List TypeId} {r m : Nat}
    (hT : tysOk C.P T = true) (hTs : (f.params.toList.all fun t => T.contains t) = true)
    (hl : laidOutB C.P = true) (hts : (f.params.toList.all fun t => C.P.readableRec t && decide (t < C.P.types.size)) = true) (hv : s.vars = []) (hrt : f.resultTypes = #[tb]) (htb : C.P.underlying tb = some .bool)
    (hs : ∀ ds : List (DataW H), ds.length = f.params.toList.length → s.fn H ds = { results := [.lit (.bool true)], args := ds })
    (h : ∀ avs, WfA C.P r f.params.toList avs → vbulks avs ≤ m → Fn C k avs ⟨[], 0⟩ fun v _ => v = .bool true)
    {W : World} {base : Nat} {args : Array Value} {ds gs : List (DataW H)} {before : List MemPlace}
    (hval : ∀ (j : Nat) t v, f.params[j]? = some t → args[j]? = some v → Value.okWide C.P W .any base t v)
    (hW : DataW.Whole enc C.P f.params.toList s.vars apart W args.toList ds gs before) (hw : (DataW.weightsEach C.P (f.params.toList ++ s.plain.varTypes C.P) (ds ++ gs)).all (· ≤ r) = true) (hm : dbulkAll (ds ++ gs) ≤ m) (hg : GlobR C (Ghost.of W) ⟨W, (Ghost.of W).st⟩ W.heap.size) :
    Calls C.P k args W fun e W' => ∃ v, e = .returned v ∧ s.post enc C.P f apart fresh handsOn again W args v W' := by
  have hW' := hW
  obtain ⟨p, q, hA, hV, hbe, hz, hn⟩ := hW
  have hgs : gs = [] := by
    rw [hv] at hV
    cases gs with
    | nil => rfl
    | cons _ _ => exact hV.elim
  subst hgs
  obtain ⟨hlen, hlen2⟩ := trodAll_length hA
  rw [List.append_nil] at hw hm
  have hw' : ∀ n ∈ DataW.weightsEach C.P f.params.toList ds, n ≤ r := by
    intro n hn
    have key : ∀ (ts us : List TypeId) (ds : List (DataW H)), n ∈ DataW.weightsEach C.P ts ds → n ∈ DataW.weightsEach C.P (ts ++ us) ds := by
      intro ts us
      induction ts with
      | nil => intro ds h; cases ds <;> simp [DataW.weightsEach] at h
      | cons t ts ih =>
        intro ds h
        cases ds with
        | nil => simp [DataW.weightsEach] at h
        | cons d ds =>
          simp only [List.cons_append, DataW.weightsEach, List.mem_append] at h ⊢
          exact h.imp id (ih ds)
    simpa using List.all_eq_true.1 hw n (key _ _ _ hn)
  obtain ⟨avs, h1, h2, h3⟩ := trodAll_Wf (b0 := base) hT hTs (fun j t v a b => hval j t v (by simpa using a) (by simpa using b)) hA hw'
  refine (law_calls hC hP hX hg h2 (h avs h1 (Nat.le_trans h3 hm))).mono fun e W' ⟨he, hB⟩ => ⟨_, he, ?_⟩
  exact post_true hl hts hv hrt htb hW' (hs ds hlen2) hB
end
end Go.Vm
