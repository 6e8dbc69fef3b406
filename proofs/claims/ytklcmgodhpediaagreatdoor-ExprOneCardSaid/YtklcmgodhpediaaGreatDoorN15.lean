/- What the evaluator answers, the model answers: code and calls. -/
import Derived.Test.YtklcmgodhpediaaGreatDoorN14
import Derived.Scope
set_option linter.unusedSimpArgs false
set_option linter.unusedVariables false
namespace Go.Vm
open Go Go.RowKit

section
variable {C : Cfg} {K : FuncId → List V → St → Option (V × St)} {N : Nat} {w0 : W0} {base : Nat}

def exR : Ex → Exit
  | .normal => .normal
  | .ret => .ret
  | .exit id => .exit id
  | .goto l => .goto l

/-- What holds behind a piece of code. -/
def Post (C : Cfg) (N : Nat) (n0 : Nat) (g0 : Ghost) (w0 : W0) (base : Nat) (e : Ex) (f : Fr) (st : St) : Exit → Act → World → Prop := fun x a w =>
  ∃ g, x = exR e ∧ Ext n0 g0 g ∧ GR g st w0 base w ∧ FR g f a ∧ a.tmps.size = N

theorem runPlan_n (hK : KOk C K) (ops : Array Oper) : ∀ (rest done : List Nat) {f f' : Fr} {st st' : St}, runPlan C K ops done rest f st = some (f', st') → st.n ≤ st'.n
  | [], done, f, f', st, st', h => by simp only [runPlan, Option.some.injEq, Prod.mk.injEq] at h; rw [h.2]; exact Nat.le_refl _
  | i :: rest, done, f, f', st, st', h => by
    simp only [runPlan] at h
    split at h
    · cases h
    · split at h
      · exact runPlan_n hK ops rest _ h
      · cases h
      · split at h
        · split at h
          · rename_i hq; exact Nat.le_trans (quietOp_n hq) (runPlan_n hK ops rest _ h)
          · cases h
        · split at h
          · rename_i hq
            split at h
            · split at hq
              · exact Nat.le_trans (quietOp_n hq) (runPlan_n hK ops rest _ h)
              · exact Nat.le_trans (wrOp_n hK hq) (runPlan_n hK ops rest _ h)
            · cases h
          · cases h

theorem runRegion_n (hK : KOk C K) {ops : Array Oper} {draw : Bool} {f f' : Fr} {st st' : St} (h : runRegion C K ops draw f st = some (f', st')) : st.n ≤ st'.n := by
  unfold runRegion at h
  split at h
  · split at h
    · exact runPlan_n hK ops _ _ h
    · cases h
  · split at h
    · exact runOps_n hK ops _ h
    · exact runOps_n hK ops _ h

/-- Code that runs in a scope's body. -/
def SW (P : Program) (body c : Code) (Q : Exit → Act → World → Prop) (a : Act) (w : World) : Prop :=
  ∀ (b : Frame) (k : List Item) (cs : List Frame), ∃ e a' w', Q e a' w' ∧ Arrives P (lone (b.at a (.code c :: .inScope body :: k)) cs w) b k cs e a' w'

theorem wp_scope_of {P : Program} {c : Code} {Q : Exit → Act → World → Prop} {a : Act} {w : World} (h : SW P c c Q a w) : (Code.scope c).wp P Q a w := by
  intro b k cs
  obtain ⟨e, a', w', hq, harr⟩ := h b k cs
  exact ⟨e, a', w', hq, .of_steps (.one step_scope) harr⟩

theorem codeOk_find : ∀ {c : Code} {l : Nat} {rest : Code}, findLabel c l = some rest → codeOk N c = true → codeOk N rest = true
  | .seq a b, l, rest, h, hc => by
    simp only [codeOk, Bool.and_eq_true] at hc
    simp only [findLabel] at h
    cases ha : findLabel a l with
    | some r =>
      rw [ha] at h; cases h
      simp only [codeOk, Bool.and_eq_true]
      exact ⟨codeOk_find ha hc.1, hc.2⟩
    | none => rw [ha] at h; exact codeOk_find h hc.2
  | .label l', l, rest, h, hc => by
    simp only [findLabel] at h
    split at h
    · cases h; rfl
    · cases h
  | .skip, _, _, h, _ => by cases h
  | .region _ _ _, _, _, h, _ => by cases h
  | .cond _ _ _, _, _, h, _ => by cases h
  | .block _ _, _, _, h, _ => by cases h
  | .loop _, _, _, h, _ => by cases h
  | .rangeFunc _ _ _ _, _, _, h, _ => by cases h
  | .exit _, _, _, h, _ => by cases h
  | .scope _, _, _, h, _ => by cases h
  | .goto _, _, _, h, _ => by cases h
  | .ret, _, _, h, _ => by cases h
  | .refuse _, _, _, h, _ => by cases h

theorem exec_n (hK : KOk C K) : ∀ (n : Nat), (∀ {c : Code} {f f' : Fr} {st st' : St} {e : Ex}, exec C K n c f st = some (e, f', st') → st.n ≤ st'.n) ∧
    (∀ {b c : Code} {f f' : Fr} {st st' : St} {e : Ex}, inScope C K n b c f st = some (e, f', st') → st.n ≤ st'.n) := by
  intro n
  induction n with
  | zero => exact ⟨fun h => by simp [exec] at h, fun h => by simp [inScope] at h⟩
  | succ n ih =>
    refine ⟨fun {c f f' st st' e} h => ?_, fun {b c f f' st st' e} h => ?_⟩
    · cases c <;> simp only [exec, Option.some.injEq, Prod.mk.injEq, reduceCtorEq] at h
      case skip => rw [h.2.2]; exact Nat.le_refl _
      case label => rw [h.2.2]; exact Nat.le_refl _
      case ret => rw [h.2.2]; exact Nat.le_refl _
      case exit => rw [h.2.2]; exact Nat.le_refl _
      case goto => rw [h.2.2]; exact Nat.le_refl _
      case region id ops draw =>
        cases hr : runRegion C K ops draw f st with
        | none => rw [hr] at h; cases h
        | some r => rw [hr] at h; cases h; exact runRegion_n hK hr
      case seq a b =>
        split at h
        · rename_i h1; exact Nat.le_trans (ih.1 h1) (ih.1 h)
        · exact ih.1 h
      case cond c a b =>
        split at h
        · exact ih.1 h
        · cases h
      case block id b =>
        split at h
        · rename_i h1; cases h; exact ih.1 h1
        · exact ih.1 h
      case loop b =>
        split at h
        · rename_i h1; exact Nat.le_trans (ih.1 h1) (ih.1 h)
        · exact ih.1 h
      case scope b => exact ih.2 h
    · simp only [inScope] at h
      split at h
      · rename_i h1
        split at h
        · exact Nat.le_trans (ih.1 h1) (ih.2 h)
        · cases h; exact ih.1 h1
      · exact ih.1 h

/-- Code that runs round a loop. -/
def LW (P : Program) (c : Code) (Q : Exit → Act → World → Prop) (a : Act) (w : World) : Prop :=
  ∀ (b : Frame) (k : List Item) (cs : List Frame), ∃ e a' w', Q e a' w' ∧ Arrives P (lone (b.at a (.code c :: .inLoop c :: k)) cs w) b k cs e a' w'

theorem wp_loop_of {P : Program} {c : Code} {Q : Exit → Act → World → Prop} {a : Act} {w : World} (h : LW P c Q a w) : (Code.loop c).wp P Q a w := by
  intro b k cs
  obtain ⟨e, a', w', hq, harr⟩ := h b k cs
  exact ⟨e, a', w', hq, .of_steps (.one step_loop) harr⟩

/-- **Code.** -/
theorem exec_sound (hC : COk C) (hK : KOk C K) : ∀ (n : Nat),
    (∀ {c : Code} {f f' : Fr} {st st' : St} {e : Ex}, exec C K n c f st = some (e, f', st') → codeOk N c = true → ∀ {g : Ghost} {w : World} {a : Act}, GR g st w0 base w → GlobR C g w0 base → FR g f a → a.tmps.size = N →
      c.wp C.P (Post C N st.n g w0 base e f' st') a w) ∧
    (∀ {b c : Code} {f f' : Fr} {st st' : St} {e : Ex}, inScope C K n b c f st = some (e, f', st') → codeOk N b = true → codeOk N c = true → ∀ {g : Ghost} {w : World} {a : Act}, GR g st w0 base w → GlobR C g w0 base → FR g f a → a.tmps.size = N →
      SW C.P b c (Post C N st.n g w0 base e f' st') a w) ∧
    (∀ {c : Code} {f f' : Fr} {st st' : St} {e : Ex}, exec C K n (.loop c) f st = some (e, f', st') → codeOk N c = true → ∀ {g : Ghost} {w : World} {a : Act}, GR g st w0 base w → GlobR C g w0 base → FR g f a → a.tmps.size = N →
      LW C.P c (Post C N st.n g w0 base e f' st') a w) := by
  intro n
  induction n with
  | zero => exact ⟨fun h => by simp [exec] at h, fun h => by simp [inScope] at h, fun h => by simp [exec] at h⟩
  | succ n ih =>
    have hloop : ∀ {c : Code} {f f' : Fr} {st st' : St} {e : Ex}, exec C K (n + 1) (.loop c) f st = some (e, f', st') → codeOk N c = true → ∀ {g : Ghost} {w : World} {a : Act}, GR g st w0 base w → GlobR C g w0 base → FR g f a → a.tmps.size = N →
      LW C.P c (Post C N st.n g w0 base e f' st') a w := by
      intro c f f' st st' e h hc g w a hG hgl hf hN
      simp only [exec] at h
      split at h
      · rename_i f1 st1 h1
        intro b' k cs
        obtain ⟨x1, a1, w1, ⟨g1, hx, e1, e2, e3, e4⟩, harr⟩ := ih.1 h1 hc hG hgl hf hN b' (.inLoop c :: k) cs
        subst hx
        obtain ⟨x2, a2, w2, ⟨g2, hx2, k1, k2, k3, k4⟩, harr2⟩ := ih.2.2 h hc e2 (hgl.mono e1.le) e3 e4 b' k cs
        exact ⟨x2, a2, w2, ⟨g2, hx2, e1.trans k1 ((exec_n hK n).1 h1), k2, k3, k4⟩, .of_steps (Steps.trans harr (.one step_inLoop)) harr2⟩
      · rename_i hne
        intro b' k cs
        obtain ⟨x1, a1, w1, hp, harr⟩ := ih.1 h hc hG hgl hf hN b' (.inLoop c :: k) cs
        have hp2 := hp
        obtain ⟨g1, hx, _⟩ := hp2
        subst hx
        cases e
        case normal => exact absurd h (hne _ _)
        all_goals exact ⟨_, a1, w1, hp, .pass (x := .inLoop c) rfl (fun _ _ => .inl (by simp [exR])) harr⟩
    refine ⟨fun {c f f' st st' e} h hc {g w a} hG hgl hf hN => ?_, fun {b c f f' st st' e} h hb hc {g w a} hG hgl hf hN => ?_, hloop⟩
    · cases c <;> try (simp only [exec, Option.some.injEq, Prod.mk.injEq, reduceCtorEq] at h; done)
      case skip => simp only [exec, Option.some.injEq, Prod.mk.injEq] at h; obtain ⟨rfl, rfl, rfl⟩ := h; exact wp_skip ⟨g, rfl, Ext.refl _ _, hG, hf, hN⟩
      case label => simp only [exec, Option.some.injEq, Prod.mk.injEq] at h; obtain ⟨rfl, rfl, rfl⟩ := h; exact wp_label ⟨g, rfl, Ext.refl _ _, hG, hf, hN⟩
      case ret => simp only [exec, Option.some.injEq, Prod.mk.injEq] at h; obtain ⟨rfl, rfl, rfl⟩ := h; exact wp_ret ⟨g, rfl, Ext.refl _ _, hG, hf, hN⟩
      case exit => simp only [exec, Option.some.injEq, Prod.mk.injEq] at h; obtain ⟨rfl, rfl, rfl⟩ := h; exact wp_exit ⟨g, rfl, Ext.refl _ _, hG, hf, hN⟩
      case goto => simp only [exec, Option.some.injEq, Prod.mk.injEq] at h; obtain ⟨rfl, rfl, rfl⟩ := h; exact wp_goto ⟨g, rfl, Ext.refl _ _, hG, hf, hN⟩
      case region id ops draw =>
        simp only [exec] at h
        cases hr : runRegion C K ops draw f st with
        | none => rw [hr] at h; cases h
        | some r =>
          rw [hr] at h; cases h
          exact region_sound hC hK hc hG hgl hf hN hr fun g' a' w' e1 e2 e3 e4 => ⟨g', rfl, e1, e3, e2, e4⟩
      case seq x y =>
        simp only [exec] at h
        simp only [codeOk, Bool.and_eq_true] at hc
        split at h
        · rename_i f1 st1 h1
          refine wp_seq (wp_mono (ih.1 h1 hc.1 hG hgl hf hN) fun x' a' w' ⟨g1, hx, e1, e2, e3, e4⟩ => ?_)
          subst hx
          refine wp_mono (ih.1 h hc.2 e2 (hgl.mono e1.le) e3 e4) fun x2 a2 w2 ⟨g2, hx, k1, k2, k3, k4⟩ => ⟨g2, hx, e1.trans k1 ((exec_n hK n).1 h1), k2, k3, k4⟩
        · rename_i hne
          refine wp_seq (wp_mono (ih.1 h hc.1 hG hgl hf hN) fun x' a' w' hp => ?_)
          have hp2 := hp
          obtain ⟨g1, hx, _⟩ := hp2
          subst hx
          cases e
          case normal => exact absurd h (hne _ _)
          all_goals exact hp
      case cond c x y =>
        simp only [exec] at h
        simp only [codeOk, Bool.and_eq_true] at hc
        split at h
        · rename_i t ht
          have hv := hf.eval (C := C) hgl c
          rw [ht] at hv
          simp only [VR] at hv
          refine wp_cond hv ?_
          cases t
          · exact ih.1 h hc.2 hG hgl hf hN
          · exact ih.1 h hc.1 hG hgl hf hN
        · cases h
      case block id b =>
        simp only [exec] at h
        split at h
        · rename_i id' f1 st1 h1
          cases h
          refine wp_block (wp_mono (ih.1 h1 hc hG hgl hf hN) fun x' a' w' ⟨g1, hx, e1, e2, e3, e4⟩ => ?_)
          subst hx
          simp only [exR, Exit.inBlock]
          by_cases hid : id' = id
          · simp only [hid, if_true]; exact ⟨g1, rfl, e1, e2, e3, e4⟩
          · simp only [hid, if_false]; exact ⟨g1, rfl, e1, e2, e3, e4⟩
        · rename_i hne
          refine wp_block (wp_mono (ih.1 h hc hG hgl hf hN) fun x' a' w' hp => ?_)
          have hp2 := hp
          obtain ⟨g1, hx, _⟩ := hp2
          subst hx
          cases e
          case exit id' => exact absurd h (hne _ _ _)
          all_goals exact hp
      case loop b => exact wp_loop_of (hloop h hc hG hgl hf hN)
      case scope b => simp only [exec] at h; exact wp_scope_of (ih.2.1 h hc hc hG hgl hf hN)
    · simp only [inScope] at h
      intro b' k cs
      split at h
      · rename_i l f1 st1 h1
        obtain ⟨x1, a1, w1, hp, harr⟩ := ih.1 h1 hc hG hgl hf hN b' (.inScope b :: k) cs
        have hp2 := hp
        obtain ⟨g1, hx, e1, e2, e3, e4⟩ := hp2
        subst hx
        split at h
        · rename_i rest hfl
          obtain ⟨x2, a2, w2, ⟨g2, hx2, k1, k2, k3, k4⟩, harr2⟩ := ih.2.1 h hb (codeOk_find hfl hb) e2 (hgl.mono e1.le) e3 e4 b' k cs
          exact ⟨x2, a2, w2, ⟨g2, hx2, e1.trans k1 ((exec_n hK n).1 h1), k2, k3, k4⟩, .of_steps (harr _ (by simp [gotoIn, hfl])) harr2⟩
        · rename_i hfl
          cases h
          exact ⟨_, a1, w1, hp, fun k' hk => harr k' (by simp [gotoIn, hfl, hk])⟩
      · rename_i hne
        obtain ⟨x1, a1, w1, hp, harr⟩ := ih.1 h hc hG hgl hf hN b' (.inScope b :: k) cs
        have hp2 := hp
        obtain ⟨g1, hx, _⟩ := hp2
        subst hx
        cases e
        case goto l => exact absurd h (hne _ _ _)
        case normal => exact ⟨_, a1, w1, hp, Steps.trans harr (.one step_inScope)⟩
        case ret => exact ⟨_, a1, w1, hp, harr⟩
        case exit id => exact ⟨_, a1, w1, hp, fun k' hk => harr k' (by simp [exitTo, hk])⟩
end
end Go.Vm
