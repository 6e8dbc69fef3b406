/- What the evaluator answers, the model answers: calls. -/
import Derived.Test.YtklcmgodhpediaaGreatDoorN15
set_option linter.unusedSimpArgs false
set_option linter.unusedVariables false
namespace Go.Vm
open Go Go.RowKit

/-! ### Memory that never changes any more -/
section
variable {g g' : Ghost} {H : List (Nat × Ob)} {n0 : Nat}

def FrzR (g g' : Ghost) (n0 : Nat) (H : List (Nat × Ob)) : Prop :=
  ∀ b cs B, n0 ≤ b → hget H b = some (.cells cs) → g.κ b = some B → ∃ vs : List Value, VRs g cs vs ∧ g'.row B 0 vs

theorem VRs.mapF {F : V → V} (hF : ∀ v x, VR g v x → VR g' (F v) x) : ∀ {cs : List V} {vs : List Value}, VRs g cs vs → VRs g' (cs.map F) vs
  | [], _, h => h
  | c :: cs, vs, h => by
    simp only [VRs] at h; obtain ⟨u, vs', rfl, h1, h2, h⟩ := h
    simp only [List.map_cons, VRs]; exact ⟨u, _, rfl, h1, hF _ _ h2, VRs.mapF hF h⟩

theorem VRl.mapF {F : V → V} (hF : ∀ v x, VR g v x → VR g' (F v) x) : ∀ {cs : List V} {vs : List Value}, VRl g cs vs → VRl g' (cs.map F) vs
  | [], _, h => h
  | c :: cs, vs, h => by
    simp only [VRl] at h; obtain ⟨u, vs', rfl, h2, h⟩ := h
    simp only [List.map_cons, VRl]; exact ⟨u, _, rfl, hF _ _ h2, VRl.mapF hF h⟩

theorem VC.to_VR {x : V} {v : Value} (hv : v.oneCell' = true) (h : VR g x v) : VC g x [v] := by
  cases x
  case agg cs => obtain ⟨vs, rfl, _⟩ := h; cases hv
  all_goals exact ⟨v, rfl, hv, h⟩

theorem VRs_VRe1 : ∀ {cs : List V} {vs : List Value}, VRs g cs vs → VRe g 1 cs vs
  | [], _, h => h
  | c :: cs, vs, h => by
    simp only [VRs] at h; obtain ⟨u, vs', rfl, h1, h2, h⟩ := h
    have := VC.to_VR h1 h2
    exact VRe_cons.2 ⟨[u], vs', rfl, rfl, by rw [this.ncells]; rfl, this, VRs_VRe1 h⟩

theorem VC.frz (k : Nat) (IH : ∀ v x, VR g v x → VR g' (Vm.frz n0 H k v) x) (hm : g.le g') {x : V} {ch : List Value} (hi : Vm.frz n0 H (k + 1) x = x ∨ True) (h : VC g x ch) (IH2 : ∀ v x, VR g v x → VR g' (Vm.frz n0 H (k+1) v) x) : VC g' (Vm.frz n0 H (k+1) x) ch := by
  cases x
  case agg cs =>
    simp only [Vm.frz, VC] at h ⊢
    exact VRs.mapF IH h
  all_goals
    obtain ⟨v, rfl, h2, h3⟩ := h
    exact VC.to_VR h2 (IH2 _ _ h3)

theorem VR.frz (hm : g.le g') (hf : FrzR g g' n0 H) : ∀ (k : Nat) (v : V) (x : Value), VR g v x → VR g' (Vm.frz n0 H k v) x := by
  intro k
  induction k with
  | zero => intro v x h; exact h.mono hm
  | succ k ih =>
    intro v x h
    have hve : ∀ {S : Nat} {xs : List V} {vs : List Value}, VRe g S xs vs → VRe g' S (xs.map (Vm.frz n0 H k)) vs := by
      intro S xs
      induction xs with
      | nil => intro vs h; exact h
      | cons y ys ihx =>
        intro vs h
        obtain ⟨ch, vs', rfl, h1, h2, h3, h4⟩ := VRe_cons.1 h
        have hc : VC g' (Vm.frz n0 H k y) ch := by
          cases y
          case agg cs =>
            cases k with
            | zero => exact VC.mono hm h3
            | succ k =>
              simp only [Vm.frz, VC] at h3 ⊢
              refine VRs.mapF (fun v x hv => ?_) h3
              have := ih (.tup [v]) (.tuple #[x]) ⟨#[x], rfl, x, [], rfl, hv, rfl⟩
              simp only [Vm.frz] at this
              obtain ⟨vs2, e, u, r, e2, hr, _⟩ := this
              cases e
              simp at e2
              rw [e2.1]; exact hr
          all_goals
            obtain ⟨v, rfl, k2, k3⟩ := h3
            exact VC.to_VR k2 (ih _ _ k3)
        exact VRe_cons.2 ⟨ch, vs', rfl, h1, by rw [hc.ncells]; exact h1, hc, ihx h4⟩
    cases v <;> simp only [Vm.frz]
    case ptr b off =>
      split
      · rename_i hb
        split
        · rename_i cs hg
          obtain ⟨B, hκ, rfl⟩ := h
          obtain ⟨vs, hv, hr⟩ := hf b cs B hb hg hκ
          exact ⟨B, off, vs.drop off, rfl, fun i v hi => by rw [List.getElem?_drop] at hi; have := hr _ _ hi; rwa [Nat.zero_add] at this, VRs.mapF ih (hv.drop off)⟩
        · exact h.mono hm
      · exact h.mono hm
    case msl b off len cap =>
      split
      · rename_i hb
        split
        · rename_i cs hg
          split
          · rename_i hle
            obtain ⟨B, hκ, cap', rfl, hc, hu⟩ := h
            obtain ⟨vs, hv, hr⟩ := hf b cs B hb hg hκ
            have hlen : (((cs.drop off).take len).map (Vm.frz n0 H k)).length = len := by simp; omega
            refine ⟨some ⟨B, off, none⟩, cap', (vs.drop off).take len, 1, by rw [hlen], hve (VRs_VRe1 ((hv.drop off).take len)), ?_, by rw [hlen]; exact hc, fun _ => ⟨B, off, rfl, fun i v hi => ?_⟩⟩
            · rw [hlen]; split
              · rename_i e; rcases hu with hu | hu | ⟨S, hu, _⟩
                · exact hu.1 ▸ e.1
                · rw [hu] at e; exact absurd e.2 (Nat.lt_irrefl _)
                · rw [hu] at e; have e2 := e.2; unfold ownC unk at e2; omega
              · trivial
            · rw [List.getElem?_take] at hi
              split at hi
              · rw [List.getElem?_drop] at hi; have := hr _ _ hi; rwa [Nat.zero_add] at this
              · cases hi
          · exact h.mono hm
        · exact h.mono hm
      · exact h.mono hm
    case cptr cs => obtain ⟨B, o, vs, rfl, h1, h2⟩ := h; exact ⟨B, o, vs, rfl, h1.mono hm, VRs.mapF ih h2⟩
    case sl tip xs =>
      obtain ⟨a, cap, vs, S, rfl, h2, h3, h4, h5⟩ := h
      exact ⟨a, cap, vs, S, by rw [List.length_map], hve h2, by rw [List.length_map]; exact h3.mono hm, by rw [List.length_map]; exact h4, fun hx => let ⟨B, o, h6, h7⟩ := h5 (fun e => hx (by rw [e]; rfl)); ⟨B, o, h6, h7.mono hm⟩⟩
    case func fn fi ca => obtain ⟨fi', ca', rfl, h1, h2⟩ := h; exact ⟨fi', ca', rfl, VRl.mapF ih h1, VRl.mapF ih h2⟩
    case iface t y => obtain ⟨x', rfl, h1⟩ := h; exact ⟨x', rfl, ih _ _ h1⟩
    case agg cs => obtain ⟨vs, rfl, h1⟩ := h; exact ⟨vs, rfl, VRs.mapF ih h1⟩
    case tup cs => obtain ⟨vs, rfl, h1⟩ := h; exact ⟨vs, rfl, VRl.mapF ih h1⟩
    all_goals exact h.mono hm
end

section
variable {g : Ghost} {st : St} {w0 : W0} {base : Nat} {w : World}

open Classical in
noncomputable def Ghost.frozen (g : Ghost) (w : World) (n0 : Nat) (H : List (Nat × Ob)) : Ghost :=
  { g with st := fun B o => if ∃ b cs, n0 ≤ b ∧ hget H b = some (.cells cs) ∧ g.κ b = some B then w.cell? ⟨B, o, none⟩ else g.st B o }

theorem GR.freeze (h : GR g st w0 base w) (n0 : Nat) : g.le (g.frozen w n0 st.H) ∧ FrzR g (g.frozen w n0 st.H) n0 st.H ∧
    ∀ H', H'.Sublist st.H → (∀ p ∈ H', p.1 < n0 ∨ ∃ sz, p.2 = .tip sz) → GR (g.frozen w n0 st.H) ⟨H', st.n⟩ w0 base w := by
  have hle : g.le (g.frozen w n0 st.H) := by
    refine ⟨fun _ _ x => x, fun _ _ x => x, fun B o v hv => ?_⟩
    simp only [Ghost.frozen]
    split
    · exact h.stab _ _ _ hv
    · exact hv
  refine ⟨hle, fun b cs B hb hg hκ => ?_, fun H' hs hp => ?_⟩
  · obtain ⟨vs, m, e, fz, h1, h2, _⟩ := h.obj b _ B hg hκ
    refine ⟨vs.toList, h2, fun i v hi => ?_⟩
    simp only [Ghost.frozen]
    rw [if_pos ⟨b, cs, hb, hg, hκ⟩, Nat.zero_add]
    simp only [World.cell?, h1]
    have hlt : i < vs.size := by rw [← Array.length_toList]; exact (List.getElem?_eq_some_iff.1 hi).1
    rw [Array.getElem?_append_left hlt]
    simpa using hi
  · have hs' := h.sub hs (Nat.le_refl _)
    refine ⟨h.below, h.lim0, fun B o v hv => ?_, fun i ob B h1 h2 => ?_, hs'.excl, hs'.old, hs'.lim, hs'.sorted, hs'.top, fun B o hB => ?_⟩
    · simp only [Ghost.frozen] at hv
      split at hv
      · exact hv
      · exact h.stab _ _ _ hv
    · refine (hs'.obj i ob B h1 h2).keep hle rfl fun o ho => ?_
      simp only [Ghost.frozen]
      rw [if_neg, ho]
      rintro ⟨b, cs, hb, hg, hκ⟩
      have hi := h.sorted.sub_get hs h1
      have := h.excl i b _ _ B hi hg h2 hκ
      subst this
      rw [hg] at hi
      cases hi
      rcases hp _ (hget_mem h1) with hh | ⟨sz, hh⟩
      · simp at hh; omega
      · cases hh
    · simp only [Ghost.frozen]
      rw [if_neg]
      · exact h.lo B o hB
      · rintro ⟨b, cs, hb, hg, hκ⟩
        have := h.old b _ B hg hκ
        omega

theorem hdrop_lt : ∀ (n : Nat) {H : List (Nat × Ob)}, Sorted H → ∀ p ∈ hdrop n H, p.1 < n
  | n, [], _, p, hp => by cases hp
  | n, (j, q) :: r, hs, p, hp => by
    simp only [hdrop] at hp
    split at hp
    · exact hdrop_lt n (List.pairwise_cons.1 hs).2 p hp
    · cases hp with
      | head => simp; omega
      | tail _ hm => have := (List.pairwise_cons.1 hs).1 p hm; simp at this; omega

theorem hdrop_cons_sub {H : List (Nat × Ob)} (hs : Sorted H) {t n0 : Nat} {ob : Ob} (hg : hget H t = some ob) (hn : n0 ≤ t) : ((t, ob) :: hdrop n0 H).Sublist H := by
  induction H with
  | nil => cases hg
  | cons p r ih =>
    obtain ⟨j, q⟩ := p
    simp only [hget] at hg
    split at hg
    · rename_i e
      simp at e; subst e; cases hg
      simp only [hdrop, if_pos hn]
      exact (hdrop_sub n0 r).cons_cons _
    · have hp := List.pairwise_cons.1 hs
      have hj : t < j := by have := hp.1 _ (hget_mem hg); simpa using this
      simp only [hdrop, if_pos (show n0 ≤ j by omega)]
      exact (ih hp.2 hg).cons _

end

section
variable {C : Cfg}

/-- The caller's view of an answer. -/
theorem leaveV_sound {g : Ghost} {st : St} {w0 : W0} {base : Nat} {w : World} (hG : GR g st w0 base w) (k : FuncId) (n0 : Nat) {v v1 : V} {st1 : St} {x : Value} (hv : VR g v x) (h : leaveV C k n0 v st = (v1, st1)) :
    st1.n = st.n ∧ ∃ g', g.le g' ∧ (∀ i, g'.κ i = g.κ i ∧ g'.θ i = g.θ i) ∧ VR g' v1 x ∧ GR g' st1 w0 base w := by
  unfold leaveV at h
  have hv0 : VR g (if C.grow k then v else strip v) x := by
    split
    · exact hv
    · exact hv.strip
  obtain ⟨v0, hv0e⟩ : ∃ v0, v0 = (if C.grow k then v else strip v) := ⟨_, rfl⟩
  simp only [← hv0e] at h hv0
  split at h
  · cases h; exact ⟨rfl, g, Ghost.le.refl g, fun _ => ⟨rfl, rfl⟩, hv0, hG⟩
  · obtain ⟨f1, f2, f3⟩ := hG.freeze n0
    have hbase : ∃ g', g.le g' ∧ (∀ i, g'.κ i = g.κ i ∧ g'.θ i = g.θ i) ∧ VR g' (if C.frz k then frz n0 st.H st.n v0 else v0) x ∧
        ∀ H', H'.Sublist st.H → (∀ p ∈ H', p.1 < n0 ∨ ∃ sz, p.2 = .tip sz) → GR g' ⟨H', st.n⟩ w0 base w := by
      split
      · exact ⟨_, f1, fun _ => ⟨rfl, rfl⟩, VR.frz f1 f2 _ _ _ hv0, f3⟩
      · exact ⟨g, Ghost.le.refl g, fun _ => ⟨rfl, rfl⟩, hv0, fun H' hs _ => hG.sub hs (Nat.le_refl _)⟩
    obtain ⟨g', k1, k2, k3, k4⟩ := hbase
    obtain ⟨v2, hv2e⟩ : ∃ v2, v2 = (if C.frz k then frz n0 st.H st.n v0 else v0) := ⟨_, rfl⟩
    simp only [← hv2e] at h k3
    have hd : GR g' ⟨hdrop n0 st.H, st.n⟩ w0 base w := k4 _ (hdrop_sub n0 _) fun p hp => .inl (hdrop_lt n0 hG.sorted p hp)
    split at h
    · split at h
      · rename_i sz hg
        cases h
        refine ⟨rfl, g', k1, k2, k3, ?_⟩
        split
        · rename_i hn
          refine k4 _ (hdrop_cons_sub hG.sorted hg hn) fun p hp => ?_
          cases hp with
          | head => exact .inr ⟨_, rfl⟩
          | tail _ hp => exact .inl (hdrop_lt n0 hG.sorted p hp)
        · exact hd
      · cases h; exact ⟨rfl, g', k1, k2, k3, hd⟩
    · cases h; exact ⟨rfl, g', k1, k2, k3, hd⟩

/-! ### Entering and leaving -/
theorem initT_get : ∀ (i : Nat) (args : List V) (t : Nat), tget (initT i args) t = if i ≤ t ∧ t < i + args.length then args.getD (t - i) .any else tget [] t
  | i, [], t => by simp [initT]; omega
  | i, v :: vs, t => by
    simp only [initT, tget]
    by_cases h : i = t
    · subst h; simp
    · simp only [beq_iff_eq, h, if_false]
      rw [initT_get (i + 1) vs t]
      by_cases h2 : i + 1 ≤ t ∧ t < i + 1 + vs.length
      · rw [if_pos h2, if_pos (by simp; omega)]
        obtain ⟨j, rfl⟩ : ∃ j, t = i + 1 + j := ⟨t - (i + 1), by omega⟩
        simp [show i + 1 + j - (i + 1) = j by omega, show i + 1 + j - i = j + 1 by omega]
      · rw [if_neg h2, if_neg (by simp; omega)]; rfl

theorem FR_init {g : Ghost} {args : List V} {args' : Array Value} (h : VRl g args args'.toList) (n m : Nat) : FR g ⟨frame0 n args, []⟩ { tmps := args' ++ Array.replicate m undef, defers := [] } := by
  refine ⟨fun i => ?_, .nil⟩
  have hl := h.length
  simp only [frame0]
  rw [initT_get]
  by_cases hi : i < args.length
  · rw [if_pos ⟨Nat.zero_le _, by simp; omega⟩]
    obtain ⟨v, h1, h2⟩ := h.get (i := i) (c := args[i]) (by simp [hi])
    simp only [Array.length_toList] at hl
    rw [Array.getElem?_toList] at h1
    have e1 : (args ++ List.replicate (n - args.length) V.any).getD (i - 0) V.any = args[i] := by simp [hi, List.getElem?_append_left]
    have e2 : (args' ++ Array.replicate m undef).getD i undef = v := by
      rw [Array.getD_eq_getD_getElem?, Array.getElem?_append_left (by omega), h1]; rfl
    rw [e1]
    show VR g _ ((args' ++ Array.replicate m undef).getD i undef)
    rw [e2]; exact h2
  · split
    · rw [show (args ++ List.replicate (n - args.length) V.any).getD (i - 0) V.any = .any by
        rw [List.getD_eq_getElem?_getD, Nat.sub_zero, List.getElem?_append_right (by omega), List.getElem?_replicate]; split <;> rfl]
      trivial
    · trivial

theorem unownCell_VR {g : Ghost} {v : V} {x : Value} (h : VR g v x) : VR g (unownCell v) x := by
  unfold unownCell
  split
  · obtain ⟨a, cap, vs, S, h1, h2, h3, h4, h5⟩ := h; exact ⟨a, cap, vs, S, h1, h2, trivial, h4, h5⟩
  · exact h

theorem unown_VR {g : Ghost} {v : V} {x : Value} (h : VR g v x) : VR g (unown v) x := by
  unfold unown
  split
  · obtain ⟨vs, h1, h2⟩ := h
    refine ⟨vs, h1, ?_⟩
    exact VRs.mapF (fun v x h => unownCell_VR h) h2
  · exact unownCell_VR h

theorem resultsV_sound (hC : COk C) {g : Ghost} {st : St} {w0 : W0} {base : Nat} {w : World} (hG : GR g st w0 base w) {t : List (Nat × V)} {tmps : Array Value} (ht : ∀ i, VR g (tget t i) (tmps.getD i undef))
    : ∀ (rs : List ResultVar) {vs : List V}, resultsV C st.H t rs = some vs → ∃ xs : List Value,
      (∀ F : ResultVar → Sem Value, (∀ u, F (.tmp u) = pure (tmps.getD u undef)) → (∀ a ty, F (.cell a ty) = (do loadVar ty (← asAddr (tmps.getD a undef)))) → (rs.mapM F).run C.P w = .ok xs w) ∧ VRl g vs xs
  | [], vs, h => by cases h; exact ⟨[], fun F _ _ => by simp, rfl⟩
  | .tmp u :: rs, vs, h => by
    simp only [resultsV, Option.map_eq_some_iff] at h
    obtain ⟨vs1, h1, rfl⟩ := h
    obtain ⟨xs, h2, h3⟩ := resultsV_sound hC hG ht rs h1
    exact ⟨tmps.getD u undef :: xs, fun F hF1 hF2 => by rw [List.mapM_cons, hF1]; simp [h2 F hF1 hF2], _, _, rfl, ht u, h3⟩
  | .cell p ty :: rs, vs, h => by
    simp only [resultsV] at h
    split at h
    · rename_i v hv
      simp only [Option.map_eq_some_iff] at h
      obtain ⟨vs1, h1, rfl⟩ := h
      obtain ⟨xs, h2, h3⟩ := resultsV_sound hC hG ht rs h1
      obtain ⟨x, h4, h5⟩ := loadV_sound hG hv (ht p)
      refine ⟨x :: xs, fun F hF1 hF2 => ?_, _, _, rfl, h5, h3⟩
      rw [List.mapM_cons, hF2]
      have hp : ∃ ad, tmps.getD p undef = .pointer (some ad) := by
        have htp := ht p
        unfold loadV at hv
        split at hv
        · obtain ⟨B, o, vs, e, _⟩ := (by rename_i hx; rw [hx] at htp; exact htp); exact ⟨_, e⟩
        · rename_i hx; rw [hx] at htp; obtain ⟨B, _, e⟩ := htp; exact ⟨_, e⟩
        · cases hv
      obtain ⟨ad, had⟩ := hp
      rw [had] at h4 ⊢
      have h4' : (loadVar ty ad).run C.P w = .ok x w := by simpa only [Instr.loadAt, Instr.sureAddr, Sem.run_bind, Sem.run_pure, Result.andThen_ok] using h4
      simp [asAddr, h4', h2 F hF1 hF2]
    · cases h

/-- Functions known by what they answer. -/
def XOk (C : Cfg) : Prop := ∀ k args st v st', C.X k args st = some (v, st') → AC C k args st v st'

mutual
/-- A value that names no memory: what is known of names is not asked. -/
theorem VR.pureV {g g' : Ghost} (h : ∀ B o v, g.st B o = some v → g'.st B o = some v) : ∀ (v : V) (x : Value), Vm.pureV v = true → VR g v x → VR g' v x
  | .any, _, _, _ => trivial
  | .bool _, _, _, r => r
  | .int _ _, _, _, r => r
  | .str _, _, _, r => r
  | .ptr _ _, _, p, _ => by simp [Vm.pureV] at p
  | .cptr cs, _, p, ⟨B, o, vs, h1, h2, h3⟩ => ⟨B, o, vs, h1, fun i v hv => h _ _ _ (h2 i v hv), VRs.pureV h cs vs (by simpa [Vm.pureV] using p) h3⟩
  | .nilptr, _, _, r => r
  | .sl tip xs, _, p, ⟨a, cap, vs, S, h1, h2, h3, h4, h5⟩ => by
    have hp : Vm.pureVs xs = true := by cases tip <;> simp [Vm.pureV] at p <;> exact p
    refine ⟨a, cap, vs, S, h1, VRe.pureV h S xs vs hp h2, ?_, h4, fun hx => let ⟨B, o, h6, h7⟩ := h5 hx; ⟨B, o, h6, fun i v hv => h _ _ _ (h7 i v hv)⟩⟩
    cases tip
    · trivial
    · exact h3
    · simp [Vm.pureV] at p
  | .msl _ _ _ _, _, p, _ => by simp [Vm.pureV] at p
  | .map _, _, p, _ => by simp [Vm.pureV] at p
  | .nilmap, _, _, r => r
  | .func _ fi ca, _, p, ⟨fi', ca', h1, h2, h3⟩ => by
    simp only [Vm.pureV, Bool.and_eq_true] at p
    exact ⟨fi', ca', h1, VRl.pureV h fi fi'.toList p.1 h2, VRl.pureV h ca ca'.toList p.2 h3⟩
  | .nilfunc, _, _, r => r
  | .iface _ x, _, p, ⟨x', h1, h2⟩ => ⟨x', h1, VR.pureV h x x' (by simpa [Vm.pureV] using p) h2⟩
  | .niliface, _, _, r => r
  | .agg cs, _, p, ⟨vs, h1, h2⟩ => ⟨vs, h1, VRs.pureV h cs vs.toList (by simpa [Vm.pureV] using p) h2⟩
  | .tup xs, _, p, ⟨vs, h1, h2⟩ => ⟨vs, h1, VRl.pureV h xs vs.toList (by simpa [Vm.pureV] using p) h2⟩
theorem VRs.pureV {g g' : Ghost} (h : ∀ B o v, g.st B o = some v → g'.st B o = some v) : ∀ (cs : List V) (vs : List Value), Vm.pureVs cs = true → VRs g cs vs → VRs g' cs vs
  | [], _, _, r => r
  | c :: cs, _, p, ⟨v, vs', h1, h2, h3, h4⟩ => by
    simp only [Vm.pureVs, Bool.and_eq_true] at p
    exact ⟨v, vs', h1, h2, VR.pureV h c v p.1 h3, VRs.pureV h cs vs' p.2 h4⟩
theorem VRl.pureV {g g' : Ghost} (h : ∀ B o v, g.st B o = some v → g'.st B o = some v) : ∀ (cs : List V) (vs : List Value), Vm.pureVs cs = true → VRl g cs vs → VRl g' cs vs
  | [], _, _, r => r
  | c :: cs, _, p, ⟨v, vs', h1, h3, h4⟩ => by
    simp only [Vm.pureVs, Bool.and_eq_true] at p
    exact ⟨v, vs', h1, VR.pureV h c v p.1 h3, VRl.pureV h cs vs' p.2 h4⟩
theorem VRe.pureV {g g' : Ghost} (h : ∀ B o v, g.st B o = some v → g'.st B o = some v) (S : Nat) : ∀ (xs : List V) (vs : List Value), Vm.pureVs xs = true → VRe g S xs vs → VRe g' S xs vs
  | [], _, _, r => r
  | x :: xs, vs, p, r => by
    simp only [Vm.pureVs, Bool.and_eq_true] at p
    obtain ⟨ch, vs', h1, h2, h3, h4, h5⟩ := VRe_cons.1 r
    refine VRe_cons.2 ⟨ch, vs', h1, h2, h3, ?_, VRe.pureV h S xs vs' p.2 h5⟩
    cases x with
    | agg cs => exact VRs.pureV h cs ch (by simpa [Vm.pureV] using p.1) h4
    | cptr cs => obtain ⟨v, a, b, B, o, ws, c, d, e⟩ := h4; exact ⟨v, a, b, B, o, ws, c, fun i v hv => h _ _ _ (d i v hv), VRs.pureV h cs ws (by simpa [Vm.pureV] using p.1) e⟩
    | sl tip ys =>
      obtain ⟨v, a, b, ad, cap, ws, T, k1, k2, k3, k4, k5⟩ := h4
      have hp : Vm.pureVs ys = true := by have := p.1; cases tip <;> simp [Vm.pureV] at this <;> exact this
      refine ⟨v, a, b, ad, cap, ws, T, k1, VRe.pureV h T ys ws hp k2, ?_, k4, fun hx => let ⟨B, o, h6, h7⟩ := k5 hx; ⟨B, o, h6, fun i v hv => h _ _ _ (h7 i v hv)⟩⟩
      cases tip
      · trivial
      · exact k3
      · have := p.1; simp [Vm.pureV] at this
    | func fn fi ca =>
      obtain ⟨v, a, b, fi', ca', c, d, e⟩ := h4
      have := p.1
      simp only [Vm.pureV, Bool.and_eq_true] at this
      exact ⟨v, a, b, fi', ca', c, VRl.pureV h fi fi'.toList this.1 d, VRl.pureV h ca ca'.toList this.2 e⟩
    | iface t y => obtain ⟨v, a, b, x', c, d⟩ := h4; exact ⟨v, a, b, x', c, VR.pureV h y x' (by simpa [Vm.pureV] using p.1) d⟩
    | tup ys => obtain ⟨v, a, b, ws, c, d⟩ := h4; exact ⟨v, a, b, ws, c, VRl.pureV h ys ws.toList (by simpa [Vm.pureV] using p.1) d⟩
    | ptr _ _ => have := p.1; simp [Vm.pureV] at this
    | msl _ _ _ _ => have := p.1; simp [Vm.pureV] at this
    | map _ => have := p.1; simp [Vm.pureV] at this
    | any => obtain ⟨v, a, b, c⟩ := h4; exact ⟨v, a, b, trivial⟩
    | bool _ => exact h4
    | int _ _ => exact h4
    | str _ => exact h4
    | nilptr => exact h4
    | nilmap => exact h4
    | nilfunc => exact h4
    | niliface => exact h4
end

/-- What package-level variables are names no memory of the evaluator's. -/
def GlobPure (C : Cfg) : Prop := ∀ i, pureV (C.glob i) = true

/-- A body that is run, and what it leaves. -/
theorem body_sound (hC : COk C) {n : Nat} (ih : KOk C (callF C n)) {k : FuncId} {fn : Func} {c : Code} (hfn : C.P.funcs[k]? = some fn) (hb : fn.body = some c) {args : List V} {st st2 : St} (hlen : args.length ≤ fn.ntmps) {e : Ex} {f' : Fr} {vs : List V}
    (hex : exec C (callF C n) n c ⟨frame0 fn.ntmps args, []⟩ st = some (e, f', st2)) (he : e = .normal ∨ e = .ret) (hd : f'.d.isEmpty = true) (hvs : resultsV C st2.H f'.t fn.results.toList = some vs) {v : V} {st' : St} (hl : leaveV C k st.n (packV vs) st2 = (v, st')) : AC C k args st v st' := by
  have hn := (exec_n ih n).1 hex
  have hn1 : st'.n = st2.n := by
    unfold leaveV at hl
    dsimp only at hl
    split at hl
    · cases hl; rfl
    · split at hl
      · split at hl <;> (cases hl; rfl)
      · cases hl; rfl
  refine ⟨by rw [hn1]; exact hn, ⟨fn, hfn, by rw [hb]; rfl⟩, fun g w0 base w args' hG hgl hargs => ?_⟩
  have hal := hargs.length
  simp only [Array.length_toList] at hal
  have hok : codeOk fn.ntmps c = true := by
    have := hC.funcs
    have := List.all_eq_true.1 this fn (by rw [← Array.getElem?_toList] at hfn; exact List.mem_of_getElem? hfn)
    simp only [funcOk, hb, Bool.and_eq_true] at this; exact this.1
  refine calls_of_wp hfn hb (wp_mono ((exec_sound hC ih n).1 hex hok hG hgl (FR_init hargs _ _) (by simp; omega)) ?_)
  rintro x a w' ⟨g1, hx, e1, e2, e3, e4⟩
  subst hx
  have hdef : a.defers = [] := by
    have := e3.d
    have hd' : f'.d = [] := by simpa using hd
    rw [hd'] at this
    generalize a.defers = ds at this
    cases this; rfl
  obtain ⟨xs, h2, h3⟩ := resultsV_sound hC e2 e3.t _ hvs
  have hxl := h3.length
  have hres : ∃ x, (results fn a.tmps).run C.P w' = .ok x w' ∧ VR g1 (packV vs) x := by
    refine ⟨if h : xs.toArray.size = 1 then xs.toArray[0] else .tuple xs.toArray, ?_, ?_⟩
    · unfold results
      rw [show fn.results = fn.results.toList.toArray from rfl, List.mapM_toArray]
      simp only [Sem.run_bind, Sem.run_map]
      rw [h2 _ (fun _ => rfl) (fun _ _ => rfl)]
      simp
    · match vs, h3 with
      | [], h3 => simp only [VRl] at h3; subst h3; exact ⟨#[], rfl, rfl⟩
      | [v], h3 =>
        obtain ⟨u, r, e, hu, hr⟩ := h3
        simp only [VRl] at hr
        subst hr; subst e
        exact hu
      | a :: b :: vs, h3 =>
        have := h3.length
        rw [dif_neg (by simp only [List.size_toArray, ← this, List.length_cons]; omega)]
        exact ⟨xs.toArray, rfl, by simpa using h3⟩
  obtain ⟨x, hx, hxv⟩ := hres
  obtain ⟨l1, g2, l2, l3, l4, l5⟩ := leaveV_sound e2 k st.n hxv hl
  have fin : a.defers = [] ∧ ∃ v', (results fn a.tmps).run C.P w' = .ok v' w' ∧ ∃ v'' g', Ending.returned v' = .returned v'' ∧ Ext st.n g g' ∧ VR g' v v'' ∧ GR g' st' w0 base w' :=
    ⟨hdef, x, hx, x, g2, rfl, ⟨e1.le.trans l2, fun i hi => ⟨(l3 i).1.trans (e1.old i hi).1, (l3 i).2.trans (e1.old i hi).2⟩⟩, l4, l5⟩
  rcases he with rfl | rfl
  · exact fin
  · exact fin

/-- A call with a memory of its own. -/
theorem fresh_sound (hC : COk C) (hP : GlobPure C) {k : FuncId} {args : List V} {v : V} {st1 : St} (h : AC C k (args.map unown) ⟨[], 0⟩ v st1) (ha : pureVs (args.map unown) = true) (hv : pureV v = true) (st : St) : AC C k args st v st := by
  obtain ⟨_, h2, h3⟩ := h
  refine ⟨Nat.le_refl _, h2, fun g w0 base w args' hG hgl hargs => ?_⟩
  obtain ⟨g0, hg0⟩ : ∃ g0 : Ghost, g0 = { κ := fun _ => none, θ := fun _ => none, st := g.st } := ⟨_, rfl⟩
  have hst : ∀ B o v, g.st B o = some v → g0.st B o = some v := fun B o v hv => by rw [hg0]; exact hv
  have hG0 : GR g0 ⟨[], 0⟩ ⟨w, g.st⟩ w.heap.size w := by
    subst hg0
    exact ⟨Below.refl _ _, Nat.le_refl _, hG.stab, fun i ob B hi _ => by simp [hget] at hi, fun i j oi oj B hi _ _ _ => by simp [hget] at hi, fun i ob B hi => by simp [hget] at hi, fun _ _ => ⟨rfl, rfl⟩, List.Pairwise.nil, fun p hp => (by cases hp), fun _ _ _ => rfl⟩
  have hgl0 : GlobR C g0 ⟨w, g.st⟩ w.heap.size := ⟨fun i => (hgl.vr i).pureV hst _ _ (hP i), hC.inv _ _ (fun k hk => hG.below.block k (Nat.lt_of_lt_of_le hk hgl.lo)) hgl.inv, Nat.le_trans hgl.lo hG.lim0⟩
  refine (h3 g0 _ _ w args' hG0 hgl0 (VRl.pureV hst _ _ ha (VRl.mapF (fun v x h => unown_VR h) hargs))).mono fun e w' ⟨x, g2, he, hext, hvr, hG2⟩ => ?_
  obtain ⟨g', hg'⟩ : ∃ g' : Ghost, g' = { κ := g.κ, θ := g.θ, st := g2.st } := ⟨_, rfl⟩
  have hle : g.le g' := by
    subst hg'
    exact ⟨fun _ _ h => h, fun _ _ h => h, fun B o v hv => hext.le.st _ _ _ (hst B o v hv)⟩
  have hblk : ∀ B, B < w.heap.size → w'.heap[B]? = w.heap[B]? := fun B hB => hG2.below.block B hB
  refine ⟨x, g', he, ⟨hle, fun i _ => by rw [hg']; exact ⟨rfl, rfl⟩⟩, VR.pureV (fun B o v hv => by rw [hg']; exact hv) _ _ hv hvr, ?_⟩
  have hlt : ∀ i ob B, hget st.H i = some ob → g'.κ i = some B → B < w.heap.size ∧ g.κ i = some B := fun i ob B hi hκ => by
    have hκ' : g.κ i = some B := by rw [hg'] at hκ; exact hκ
    exact ⟨(hG.obj i ob B hi hκ').lt, hκ'⟩
  refine ⟨⟨hG2.below.os.trans hG.below.os, hG2.below.tape.trans hG.below.tape, hG2.below.output.trans hG.below.output, Nat.le_trans hG.below.size hG2.below.size, fun k hk => (hblk k (Nat.lt_of_lt_of_le hk hG.lim0)).trans (hG.below.block k hk)⟩,
    Nat.le_trans hG.lim0 hG2.below.size, fun B o v hv => hG2.stab B o v (by rw [hg'] at hv; exact hv), fun i ob B hi hκ => ?_, fun i j oi oj B hi hj hκi hκj => hG.excl i j oi oj B hi hj (hlt i oi B hi hκi).2 (hlt j oj B hj hκj).2,
    fun i ob B hi hκ => hG.old i ob B hi (hlt i ob B hi hκ).2, fun i hi => by rw [hg']; exact hG.lim i hi, hG.sorted, hG.top, fun B o hB => ?_⟩
  · obtain ⟨hB, hκ'⟩ := hlt i ob B hi hκ
    refine (hG.obj i ob B hi hκ').keep hle (hblk B hB) (fun o ho => ?_) (by rw [hg']; exact fun _ h => h)
    rw [hg']
    exact (hG2.lo B o hB).trans ho
  · rw [hg']
    exact (hG2.lo B o (Nat.lt_of_lt_of_le hB hG.lim0)).trans (hG.lo B o hB)

/-- **Calls.** -/
theorem callF_sound (hC : COk C) (hP : GlobPure C) (hX : XOk C) : ∀ n, KOk C (callF C n) := by
  intro n
  induction n with
  | zero => intro k args st v st' h; simp [callF] at h
  | succ n ih =>
    intro k args st v st' h
    simp only [callF] at h
    split at h
    · rename_i r hr
      cases h
      exact hX _ _ _ _ _ hr
    · split at h
      · cases h
      · rename_i fn hfn
        split at h
        · cases h
        · rename_i c hb
          split at h
          · rename_i hlen
            split at h
            · split at h
              · rename_i ha
                split at h
                · rename_i e f' st2 hex
                  split at h
                  · rename_i hok
                    split at h
                    · rename_i vs hvs
                      split at h
                      · rename_i hv
                        cases h
                        exact fresh_sound hC hP (body_sound hC ih hfn hb (by simpa using hlen) hex hok.1 hok.2 hvs rfl) ha hv _
                      · cases h
                    · cases h
                  · cases h
                · cases h
              · cases h
            · split at h
              · rename_i e f' st2 hex
                split at h
                · rename_i hok
                  split at h
                  · rename_i vs hvs
                    exact body_sound hC ih hfn hb hlen hex hok.1 hok.2 hvs (Option.some.inj h)
                  · cases h
                · cases h
              · cases h
          · cases h
end
end Go.Vm
