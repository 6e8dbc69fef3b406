/- Rules: what code does, piece by piece, with as much fuel as it wants. -/
import Derived.Test.YtomkkdlfoellaaaDoorVm16
import Derived.KernelRfl
set_option linter.unusedSimpArgs false
set_option linter.unusedVariables false
namespace Go.Vm
open Go Go.RowKit

section
variable {C : Cfg}

/-! ### More fuel, the same answer -/
def KLe (K K' : FuncId → List V → St → Option (V × St)) : Prop := ∀ k args st r, K k args st = some r → K' k args st = some r

theorem KLe.refl (K : FuncId → List V → St → Option (V × St)) : KLe K K := fun _ _ _ _ h => h
theorem KLe.trans {K K' K'' : FuncId → List V → St → Option (V × St)} (h : KLe K K') (k : KLe K' K'') : KLe K K'' := fun _ _ _ _ x => k _ _ _ _ (h _ _ _ _ x)

theorem wrOp_le {K K' : FuncId → List V → St → Option (V × St)} (hK : KLe K K') {ρ : Operand → V} {st : St} {op : Op} {r : V × St} (h : wrOp C K ρ st op = some r) : wrOp C K' ρ st op = some r := by
  cases op <;> try (simpa only [wrOp] using h)
  case call c =>
    obtain ⟨callee, args, argTypes⟩ := c
    cases callee
    case value q =>
      simp only [wrOp] at h ⊢
      split at h
      · exact hK _ _ _ _ h
      · cases h
    case invoke q name =>
      simp only [wrOp] at h ⊢
      split at h
      · split at h
        · exact hK _ _ _ _ h
        · cases h
      · cases h
    case builtin b => cases b <;> simpa only [wrOp] using h

theorem runOp_le {K K' : FuncId → List V → St → Option (V × St)} (hK : KLe K K') {f : Fr} {st : St} {o : Oper} {r : Fr × St} (h : runOp C K f st o = some r) : runOp C K' f st o = some r := by
  unfold runOp at h ⊢
  cases hq : quietOp C f st o.op with
  | some q => rw [hq] at h; exact h
  | none =>
    rw [hq] at h
    dsimp only at h ⊢
    split at h
    · exact h
    · cases hw : wrOp C K (evalO C f) st o.op with
      | none => rw [hw] at h; cases h
      | some r => rw [hw] at h; rw [wrOp_le hK hw]; exact h

theorem runOps_le {K K' : FuncId → List V → St → Option (V × St)} (hK : KLe K K') (ops : Array Oper) : ∀ (l : List Oper) {f : Fr} {st : St} {r : Fr × St}, runOps C K ops l f st = some r → runOps C K' ops l f st = some r
  | [], f, st, r, h => h
  | o :: rest, f, st, r, h => by
    simp only [runOps] at h ⊢
    split at h
    · split at h
      · rename_i hop; simp only [runOp_le hK hop]; exact runOps_le hK ops rest h
      · cases h
    · exact runOps_le hK ops rest h
    · cases h

theorem runPlan_le {K K' : FuncId → List V → St → Option (V × St)} (hK : KLe K K') (ops : Array Oper) : ∀ (l done : List Nat) {f : Fr} {st : St} {r : Fr × St}, runPlan C K ops done l f st = some r → runPlan C K' ops done l f st = some r
  | [], done, f, st, r, h => h
  | i :: rest, done, f, st, r, h => by
    simp only [runPlan] at h ⊢
    cases ho : ops[i]? with
    | none => rw [ho] at h; cases h
    | some o =>
      rw [ho] at h
      dsimp only at h ⊢
      cases hw : wantedV f ops o with
      | none => rw [hw] at h; cases h
      | some b =>
        rw [hw] at h
        cases b with
        | false => exact runPlan_le hK ops rest _ h
        | true =>
          dsimp only at h ⊢
          by_cases hh : hoistAt ops i = true
          · rw [if_pos hh] at h ⊢
            split at h
            · exact runPlan_le hK ops rest _ h
            · cases h
          · rw [if_neg hh] at h ⊢
            have key : ∀ x, (if hoist o.op = true then quietOp C f st o.op else wrOp C K (evalO C f) st o.op) = some x → (if hoist o.op = true then quietOp C f st o.op else wrOp C K' (evalO C f) st o.op) = some x := by
              intro x hx
              by_cases hi : hoist o.op = true
              · rw [if_pos hi] at hx ⊢; exact hx
              · rw [if_neg hi] at hx ⊢; exact wrOp_le hK hx
            cases hq : (if hoist o.op = true then quietOp C f st o.op else wrOp C K (evalO C f) st o.op) with
            | none => rw [hq] at h; cases h
            | some x =>
              rw [hq] at h
              rw [key x hq]
              dsimp only at h ⊢
              split at h
              · rename_i h2; rw [if_pos h2]; exact runPlan_le hK ops rest _ h
              · cases h

theorem runRegion_le {K K' : FuncId → List V → St → Option (V × St)} (hK : KLe K K') {ops : Array Oper} {draw : Bool} {f : Fr} {st : St} {r : Fr × St} (h : runRegion C K ops draw f st = some r) : runRegion C K' ops draw f st = some r := by
  unfold runRegion at h ⊢
  cases draw with
  | true =>
    simp only [if_true] at h ⊢
    split at h
    · rename_i h2; rw [if_pos h2]; exact runPlan_le hK ops _ _ h
    · cases h
  | false =>
    simp only [Bool.false_eq_true, if_false] at h ⊢
    split at h
    · exact runOps_le hK ops _ h
    · exact runOps_le hK ops _ h

theorem exec_le {K K' : FuncId → List V → St → Option (V × St)} (hK : KLe K K') : ∀ (n m : Nat), n ≤ m → (∀ {c : Code} {f : Fr} {st : St} {r : Ex × Fr × St}, exec C K n c f st = some r → exec C K' m c f st = some r) ∧
    (∀ {b c : Code} {f : Fr} {st : St} {r : Ex × Fr × St}, inScope C K n b c f st = some r → inScope C K' m b c f st = some r) := by
  intro n
  induction n with
  | zero => intro m _; exact ⟨fun h => by simp [exec] at h, fun h => by simp [inScope] at h⟩
  | succ n ih =>
    intro m hm
    obtain ⟨m, rfl⟩ : ∃ k, m = k + 1 := ⟨m - 1, by omega⟩
    have ih := ih m (by omega)
    refine ⟨fun {c f st r} h => ?_, fun {b c f st r} h => ?_⟩
    · cases c <;> try (simpa only [exec] using h)
      case region id ops draw =>
        simp only [exec] at h ⊢
        cases hr : runRegion C K ops draw f st with
        | none => rw [hr] at h; cases h
        | some r => rw [hr] at h; rw [runRegion_le hK hr]; exact h
      case seq a b =>
        simp only [exec] at h ⊢
        split at h
        · rename_i h1; simp only [ih.1 h1]; exact ih.1 h
        · rename_i hne
          rw [ih.1 h]
          split
          · rename_i e; cases e; exact absurd h (hne _ _)
          · rfl
      case cond c a b =>
        simp only [exec] at h ⊢
        split at h
        · exact ih.1 h
        · cases h
      case block id b =>
        simp only [exec] at h ⊢
        split at h
        · rename_i h1; simp only [ih.1 h1]; exact h
        · rename_i hne
          rw [ih.1 h]
          split
          · rename_i e; cases e; exact absurd h (hne _ _ _)
          · rfl
      case loop b =>
        simp only [exec] at h ⊢
        split at h
        · rename_i h1; simp only [ih.1 h1]; exact ih.1 h
        · rename_i hne
          rw [ih.1 h]
          split
          · rename_i e; cases e; exact absurd h (hne _ _)
          · rfl
      case scope b => simp only [exec] at h ⊢; exact ih.2 h
    · simp only [inScope] at h ⊢
      split at h
      · rename_i h1
        simp only [ih.1 h1]
        cases hf : findLabel b _ with
        | some r => simp only [hf] at h ⊢; exact ih.2 h
        | none => simp only [hf] at h ⊢; exact h
      · rename_i hne
        rw [ih.1 h]
        split
        · rename_i e; cases e; exact absurd h (hne _ _ _)
        · rfl

theorem callF_le : ∀ (n m : Nat), n ≤ m → KLe (callF C n) (callF C m) := by
  intro n
  induction n with
  | zero => intro m _ k args st r h; simp [callF] at h
  | succ n ih =>
    intro m hm k args st r h
    obtain ⟨m, rfl⟩ : ∃ k, m = k + 1 := ⟨m - 1, by omega⟩
    have ih := ih m (by omega)
    simp only [callF] at h ⊢
    split at h
    · exact h
    · split at h
      · cases h
      · split at h
        · cases h
        · split at h
          · rename_i hl
            simp only [hl, if_true]
            cases hp : C.pure k with
            | true =>
              simp only [hp, if_true] at h ⊢
              split at h
              · rename_i ha
                simp only [ha, if_true]
                split at h
                · rename_i hex
                  simp only [(exec_le ih n m (by omega)).1 hex]
                  exact h
                · cases h
              · cases h
            | false =>
              simp only [hp, Bool.false_eq_true, if_false] at h ⊢
              split at h
              · rename_i hex
                simp only [(exec_le ih n m (by omega)).1 hex]
                exact h
              · cases h
          · cases h

theorem exec_to {n k m : Nat} {c : Code} {f : Fr} {st : St} {r : Ex × Fr × St} (h : exec C (callF C n) n c f st = some r) (h1 : n ≤ k) (h2 : n ≤ m) : exec C (callF C k) m c f st = some r := (exec_le (callF_le n k h1) n m h2).1 h
theorem scope_to {n k m : Nat} {b c : Code} {f : Fr} {st : St} {r : Ex × Fr × St} (h : inScope C (callF C n) n b c f st = some r) (h1 : n ≤ k) (h2 : n ≤ m) : inScope C (callF C k) m b c f st = some r := (exec_le (callF_le n k h1) n m h2).2 h
theorem call_to {n m : Nat} {k : FuncId} {args : List V} {st : St} {r : V × St} (h : callF C n k args st = some r) (h1 : n ≤ m) : callF C m k args st = some r := callF_le n m h1 _ _ _ _ h

/-! ### What code does -/
structure Ev (C : Cfg) (c : Code) (f : Fr) (st : St) (Q : Ex → Fr → St → Prop) : Prop where
  ex : ∃ n e f' st', exec C (callF C n) n c f st = some (e, f', st') ∧ Q e f' st'
structure EvS (C : Cfg) (b c : Code) (f : Fr) (st : St) (Q : Ex → Fr → St → Prop) : Prop where
  ex : ∃ n e f' st', inScope C (callF C n) n b c f st = some (e, f', st') ∧ Q e f' st'
structure EvOps (C : Cfg) (ops : Array Oper) (l : List Oper) (f : Fr) (st : St) (Q : Fr → St → Prop) : Prop where
  ex : ∃ n f' st', runOps C (callF C n) ops l f st = some (f', st') ∧ Q f' st'
structure EvPlan (C : Cfg) (ops : Array Oper) (done l : List Nat) (f : Fr) (st : St) (Q : Fr → St → Prop) : Prop where
  ex : ∃ n f' st', runPlan C (callF C n) ops done l f st = some (f', st') ∧ Q f' st'
/-- What a call answers. -/
structure Fn (C : Cfg) (k : FuncId) (args : List V) (st : St) (Q : V → St → Prop) : Prop where
  ex : ∃ n v st', callF C n k args st = some (v, st') ∧ Q v st'

theorem Fn.mono {k : FuncId} {args : List V} {st : St} {Q Q' : V → St → Prop} (h : Fn C k args st Q) (hq : ∀ v st', Q v st' → Q' v st') : Fn C k args st Q' := by
  obtain ⟨n, v, st', h1, h2⟩ := h; exact ⟨n, v, st', h1, hq _ _ h2⟩
theorem Ev.mono {c : Code} {f : Fr} {st : St} {Q Q' : Ex → Fr → St → Prop} (h : Ev C c f st Q) (hq : ∀ e f' st', Q e f' st' → Q' e f' st') : Ev C c f st Q' := by
  obtain ⟨n, e, f', st', h1, h2⟩ := h; exact ⟨n, e, f', st', h1, hq _ _ _ h2⟩

/-- Behind a piece of code: the next, if it ends as it should. -/
def Nx (N : Fr → St → Prop) (Q : Ex → Fr → St → Prop) : Ex → Fr → St → Prop
  | .normal, f, st => N f st
  | e, f, st => Q e f st
def Bx (id : Nat) (Q : Ex → Fr → St → Prop) : Ex → Fr → St → Prop
  | .exit id', f, st => Q (if id' = id then .normal else .exit id') f st
  | e, f, st => Q e f st
def Gx (N : Nat → Fr → St → Prop) (Q : Ex → Fr → St → Prop) : Ex → Fr → St → Prop
  | .goto l, f, st => N l f st
  | e, f, st => Q e f st

section
variable {f : Fr} {st : St} {Q : Ex → Fr → St → Prop}

theorem Ev.skip (h : Q .normal f st) : Ev C .skip f st Q := ⟨1, _, _, _, rfl, h⟩
theorem Ev.label {l : Nat} (h : Q .normal f st) : Ev C (.label l) f st Q := ⟨1, _, _, _, rfl, h⟩
theorem Ev.ret (h : Q .ret f st) : Ev C .ret f st Q := ⟨1, _, _, _, rfl, h⟩
theorem Ev.exit {id : Nat} (h : Q (.exit id) f st) : Ev C (.exit id) f st Q := ⟨1, _, _, _, rfl, h⟩
theorem Ev.goto {l : Nat} (h : Q (.goto l) f st) : Ev C (.goto l) f st Q := ⟨1, _, _, _, rfl, h⟩

theorem exec_up {n m : Nat} (h : n ≤ m) {c : Code} {f : Fr} {st : St} {r : Ex × Fr × St} (k : exec C (callF C n) n c f st = some r) : exec C (callF C m) m c f st = some r := (exec_le (callF_le n m h) n m h).1 k

theorem Ev.seq {a b : Code} (h : Ev C a f st (Nx (fun f' st' => Ev C b f' st' Q) Q)) : Ev C (.seq a b) f st Q := by
  obtain ⟨n, e, f', st', h1, h2⟩ := h
  cases e
  case normal =>
    obtain ⟨m, e2, f2, st2, h3, h4⟩ := h2
    refine ⟨max n m + 1, e2, f2, st2, ?_, h4⟩
    simp only [exec, exec_to (k := max n m + 1) (m := max n m) h1 (by omega) (by omega), exec_to (k := max n m + 1) (m := max n m) h3 (by omega) (by omega)]
  all_goals
    refine ⟨n + 1, _, f', st', ?_, h2⟩
    simp only [exec, exec_to (k := n + 1) (m := n) h1 (by omega) (by omega)]

theorem Ev.cond {c : Operand} {a b : Code} {t : Bool} (hc : evalO C f c = .bool t) (h : Ev C (if t then a else b) f st Q) : Ev C (.cond c a b) f st Q := by
  obtain ⟨n, e, f', st', h1, h2⟩ := h
  refine ⟨n + 1, e, f', st', ?_, h2⟩
  simp only [exec, hc, exec_to (k := n + 1) (m := n) h1 (by omega) (by omega)]

theorem Ev.cond2 {c : Operand} {a b : Code} {t : Bool} (hc : evalO C f c = .bool t) (h1 : t = true → Ev C a f st Q) (h0 : t = false → Ev C b f st Q) : Ev C (.cond c a b) f st Q := by
  refine Ev.cond hc ?_
  cases t
  · exact h0 rfl
  · exact h1 rfl

theorem Ev.block {id : Nat} {b : Code} (h : Ev C b f st (Bx id Q)) : Ev C (.block id b) f st Q := by
  obtain ⟨n, e, f', st', h1, h2⟩ := h
  have h1' := exec_to (k := n + 1) (m := n) h1 (by omega) (by omega)
  cases e
  all_goals
    refine ⟨n + 1, _, f', st', ?_, h2⟩
    simp only [exec, h1']

theorem Ev.loop {b : Code} (h : Ev C b f st (Nx (fun f' st' => Ev C (.loop b) f' st' Q) Q)) : Ev C (.loop b) f st Q := by
  obtain ⟨n, e, f', st', h1, h2⟩ := h
  cases e
  case normal =>
    obtain ⟨m, e2, f2, st2, h3, h4⟩ := h2
    refine ⟨max n m + 1, e2, f2, st2, ?_, h4⟩
    simp only [exec, exec_to (k := max n m + 1) (m := max n m) h1 (by omega) (by omega), exec_to (k := max n m + 1) (m := max n m) h3 (by omega) (by omega)]
  all_goals
    refine ⟨n + 1, _, f', st', ?_, h2⟩
    simp only [exec, exec_to (k := n + 1) (m := n) h1 (by omega) (by omega)]

theorem Ev.scope {b : Code} (h : EvS C b b f st Q) : Ev C (.scope b) f st Q := by
  obtain ⟨n, e, f', st', h1, h2⟩ := h
  exact ⟨n + 1, e, f', st', by simp only [exec, scope_to (k := n + 1) (m := n) h1 (by omega) (by omega)], h2⟩

/-- Behind a jump in a scope. -/
def Jx (C : Cfg) (b : Code) (Q : Ex → Fr → St → Prop) (l : Nat) (f : Fr) (st : St) : Prop :=
  match findLabel b l with
  | some r => EvS C b r f st Q
  | none => Q (.goto l) f st

theorem EvS.of {b c : Code} (h : Ev C c f st (Gx (Jx C b Q) Q)) : EvS C b c f st Q := by
  obtain ⟨n, e, f', st', h1, h2⟩ := h
  cases e
  case goto l =>
    simp only [Gx, Jx] at h2
    split at h2
    · rename_i r hr
      obtain ⟨m, e2, f2, st2, h3, h4⟩ := h2
      refine ⟨max n m + 1, e2, f2, st2, ?_, h4⟩
      simp only [inScope, exec_to (k := max n m + 1) (m := max n m) h1 (by omega) (by omega), hr, scope_to (k := max n m + 1) (m := max n m) h3 (by omega) (by omega)]
    · rename_i hr
      refine ⟨n + 1, _, f', st', ?_, h2⟩
      simp only [inScope, exec_to (k := n + 1) (m := n) h1 (by omega) (by omega), hr]
  all_goals
    refine ⟨n + 1, _, f', st', ?_, h2⟩
    simp only [inScope, exec_to (k := n + 1) (m := n) h1 (by omega) (by omega)]

/-- A loop, by what holds ahead of each round, and what each round lowers. -/
theorem Ev.loop_ind {b : Code} (Inv : Nat → Fr → St → Prop) {n : Nat} (h0 : Inv n f st) (step : ∀ n f st, Inv n f st → Ev C b f st (Nx (fun f' st' => ∃ m, m < n ∧ Inv m f' st') Q)) : Ev C (.loop b) f st Q := by
  induction n using Nat.strongRecOn generalizing f st with
  | _ n ih =>
    refine Ev.loop ((step n f st h0).mono fun e f' st' h => ?_)
    cases e
    case normal => obtain ⟨m, hm, hI⟩ := h; exact ih m hm hI
    all_goals exact h

/-! Regions. -/
theorem Ev.ops {id : Nat} {ops : Array Oper} (h : EvOps C ops ops.toList f st (Q .normal)) (hp : pairV C f ops.toList = none := by kernel_rfl) : Ev C (.region id ops false) f st Q := by
  obtain ⟨n, f', st', h1, h2⟩ := h
  refine ⟨n + 1, .normal, f', st', ?_, h2⟩
  simp only [exec, runRegion, hp, Bool.false_eq_true, if_false, runOps_le (callF_le n (n + 1) (by omega)) ops _ h1, Option.map_some]
theorem Ev.opsC {id : Nat} {ops : Array Oper} {f2 : Fr} {rest : List Oper} (hp : pairV C f ops.toList = some (f2, rest)) (h : EvOps C ops rest f2 st (Q .normal)) : Ev C (.region id ops false) f st Q := by
  obtain ⟨n, f', st', h1, h2⟩ := h
  refine ⟨n + 1, .normal, f', st', ?_, h2⟩
  simp only [exec, runRegion, hp, Bool.false_eq_true, if_false, runOps_le (callF_le n (n + 1) (by omega)) ops _ h1, Option.map_some]

theorem Ev.drawn {id : Nat} {ops : Array Oper} (hp : planOk ops [] (plan ops) = true) {l : List Nat} (hl : plan ops = l) (h : EvPlan C ops [] l f st (Q .normal)) : Ev C (.region id ops true) f st Q := by
  obtain ⟨n, f', st', h1, h2⟩ := h
  refine ⟨n + 1, .normal, f', st', ?_, h2⟩
  simp only [exec, runRegion, if_true, hp]
  rw [hl]
  simp only [runPlan_le (callF_le n (n + 1) (by omega)) ops _ _ h1, Option.map_some]
end

section
variable {ops : Array Oper} {f : Fr} {st : St} {Q : Fr → St → Prop}

theorem EvOps.nil (h : Q f st) : EvOps C ops [] f st Q := ⟨0, _, _, rfl, h⟩
theorem EvOps.quiet {o : Oper} {rest : List Oper} {v : V} {st' : St} (hw : wantedV f ops o = some true) (hq : quietOp C f st o.op = some (v, st')) (h : EvOps C ops rest (f.put o.dst v) st' Q) : EvOps C ops (o :: rest) f st Q := by
  obtain ⟨n, f', st2, h1, h2⟩ := h
  exact ⟨n, f', st2, by simp only [runOps, hw, runOp, hq, h1], h2⟩
theorem EvOps.skip {o : Oper} {rest : List Oper} (hw : wantedV f ops o = some false) (h : EvOps C ops rest (f.put o.dst (.tup [])) st Q) : EvOps C ops (o :: rest) f st Q := by
  obtain ⟨n, f', st2, h1, h2⟩ := h
  exact ⟨n, f', st2, by simp only [runOps, hw, h1], h2⟩
theorem EvOps.split {o : Oper} {rest : List Oper} {b : Bool} (hw : wantedV f ops o = some b) (h1 : b = true → EvOps C ops (o :: rest) f st Q) (h0 : b = false → EvOps C ops (o :: rest) f st Q) : EvOps C ops (o :: rest) f st Q := by
  cases b
  · exact h0 rfl
  · exact h1 rfl

/-- An operation that may change memory, and calls nothing. -/
def plainWr : Op → Bool
  | .store .. | .mapUpdate .. | .insert .. => true
  | .call { callee := .builtin .append, .. } => true
  | _ => false

theorem quiet_none_wr {op : Op} (h : plainWr op = true) : quietOp C f st op = none := by
  cases op <;> try (simp only [plainWr, Bool.false_eq_true] at h) <;> try rfl
  rename_i c
  obtain ⟨callee, args, argTypes⟩ := c
  cases callee <;> try (simp only [plainWr, Bool.false_eq_true] at h)
  rename_i b
  cases b <;> first | rfl | (simp only [plainWr, Bool.false_eq_true] at h)

theorem EvOps.wr {o : Oper} {rest : List Oper} {v : V} {st' : St} (hw : wantedV f ops o = some true) (hp : plainWr o.op = true) (hq : wrOp C (callF C 0) (evalO C f) st o.op = some (v, st')) (h : EvOps C ops rest (f.put o.dst v) st' Q) : EvOps C ops (o :: rest) f st Q := by
  obtain ⟨n, f', st2, h1, h2⟩ := h
  refine ⟨n, f', st2, ?_, h2⟩
  have hn : quietOp C f st o.op = none := quiet_none_wr hp
  have hd : runOp C (callF C n) f st o = some (f.put o.dst v, st') := by
    unfold runOp
    rw [hn]
    dsimp only
    split
    · rename_i e; rw [e] at hp; cases hp
    · rw [wrOp_le (callF_le 0 n (by omega)) hq]; rfl
  simp only [runOps, hw, hd, h1]

theorem EvOps.call {dst : Option Tmp} {g : Operand} {args : Array Operand} {ats : Array TypeId} {type : TypeId} {pos : String} {after : Array Edge} {guard : Option (Nat × Bool)} {rest : List Oper} {k : FuncId} {fi ca : List V}
    (hw : wantedV f ops { dst := dst, op := .call { callee := .value g, args := args, argTypes := ats }, type := type, pos := pos, after := after, guard := guard } = some true) (hg : evalO C f g = .func (.func k) fi ca)
    (h : Fn C k (fi ++ args.toList.map (evalO C f) ++ ca) st fun v st' => EvOps C ops rest (f.put dst v) st' Q) :
    EvOps C ops ({ dst := dst, op := .call { callee := .value g, args := args, argTypes := ats }, type := type, pos := pos, after := after, guard := guard } :: rest) f st Q := by
  obtain ⟨m, v, st1, hc, n, f', st2, h1, h2⟩ := h
  refine ⟨max m n, f', st2, ?_, h2⟩
  have hd : runOp C (callF C (max m n)) f st { dst := dst, op := .call { callee := .value g, args := args, argTypes := ats }, type := type, pos := pos, after := after, guard := guard } = some (f.put dst v, st1) := by
    unfold runOp
    simp only [quietOp, rdOp, alOp, wrOp, hg, call_to (m := max m n) hc (by omega), Option.map_some]
  simp only [runOps, hw, hd, runOps_le (callF_le n (max m n) (by omega)) ops _ h1]

/-! Regions whose order is open. -/
theorem EvPlan.nil {done : List Nat} (h : Q f st) : EvPlan C ops done [] f st Q := ⟨0, _, _, rfl, h⟩
theorem EvPlan.skip {done rest : List Nat} {i : Nat} {o : Oper} (ho : ops[i]? = some o) (hw : wantedV f ops o = some false) (h : EvPlan C ops (i :: done) rest (f.put o.dst (.tup [])) st Q) : EvPlan C ops done (i :: rest) f st Q := by
  obtain ⟨n, f', st2, h1, h2⟩ := h
  exact ⟨n, f', st2, by simp only [runPlan, ho, hw, h1], h2⟩
theorem EvPlan.quiet {done rest : List Nat} {i : Nat} {o : Oper} {v : V} {st' : St} (ho : ops[i]? = some o) (hh : hoistAt ops i = true) (hw : wantedV f ops o = some true) (hq : quietOp C f st o.op = some (v, st')) (h : EvPlan C ops (i :: done) rest (f.put o.dst v) st' Q) : EvPlan C ops done (i :: rest) f st Q := by
  obtain ⟨n, f', st2, h1, h2⟩ := h
  exact ⟨n, f', st2, by simp only [runPlan, ho, hw, hh, hq, if_true, h1], h2⟩

/-- Which operations are to be looked at again. -/
def again (ops : Array Oper) (done : List Nat) (i : Nat) : List Nat := done.filter fun d => !(beforeL ops i).contains d && hoistAt ops d && (match ops[d]? with | .some p => heapDep p.op | .none => false)

theorem EvPlan.late {done rest : List Nat} {i : Nat} {o : Oper} {v : V} {st' : St} (ho : ops[i]? = some o) (hh : hoistAt ops i = false) (hi : hoist o.op = true) (hw : wantedV f ops o = some true) (hq : quietOp C f st o.op = some (v, st')) {l : List Nat} (hl : again ops done i = l) (hs : l.all (stillOk C (f.put o.dst v) st' ops) = true)
    (h : EvPlan C ops (i :: done) rest (f.put o.dst v) st' Q) : EvPlan C ops done (i :: rest) f st Q := by
  obtain ⟨n, f', st2, h1, h2⟩ := h
  subst hl
  exact ⟨n, f', st2, by simp only [runPlan, ho, hw, hh, hi, hq, if_true, Bool.false_eq_true, if_false]; refine (if_pos ?_).trans h1; exact hs, h2⟩
theorem EvPlan.wr {done rest : List Nat} {i : Nat} {o : Oper} {v : V} {st' : St} (ho : ops[i]? = some o) (hh : hoistAt ops i = false) (hp : plainWr o.op = true) (hw : wantedV f ops o = some true) (hq : wrOp C (callF C 0) (evalO C f) st o.op = some (v, st')) {l : List Nat} (hl : again ops done i = l) (hs : l.all (stillOk C (f.put o.dst v) st' ops) = true)
    (h : EvPlan C ops (i :: done) rest (f.put o.dst v) st' Q) : EvPlan C ops done (i :: rest) f st Q := by
  obtain ⟨n, f', st2, h1, h2⟩ := h
  subst hl
  have hi : hoist o.op = false := by
    revert hp; cases o.op <;> simp only [plainWr, hoist, Bool.false_eq_true, implies_true, false_implies] <;> (intro h)
    rename_i c; obtain ⟨callee, args, ats⟩ := c
    cases callee <;> first | rfl | skip
    rename_i b
    cases b <;> first | rfl | cases h
  exact ⟨n, f', st2, by simp only [runPlan, ho, hw, hh, hi, wrOp_le (callF_le 0 n (by omega)) hq, if_true, Bool.false_eq_true, if_false]; refine (if_pos ?_).trans h1; exact hs, h2⟩
theorem EvPlan.call {done rest : List Nat} {i : Nat} {dst : Option Tmp} {g : Operand} {args : Array Operand} {ats : Array TypeId} {type : TypeId} {pos : String} {after : Array Edge} {guard : Option (Nat × Bool)} {k : FuncId} {fi ca : List V}
    (ho : ops[i]? = some { dst := dst, op := .call { callee := .value g, args := args, argTypes := ats }, type := type, pos := pos, after := after, guard := guard }) (hh : hoistAt ops i = false)
    (hw : wantedV f ops { dst := dst, op := .call { callee := .value g, args := args, argTypes := ats }, type := type, pos := pos, after := after, guard := guard } = some true) (hg : evalO C f g = .func (.func k) fi ca) {l : List Nat} (hl : again ops done i = l)
    (h : Fn C k (fi ++ args.toList.map (evalO C f) ++ ca) st fun v st' => l.all (stillOk C (f.put dst v) st' ops) = true ∧ EvPlan C ops (i :: done) rest (f.put dst v) st' Q) :
    EvPlan C ops done (i :: rest) f st Q := by
  obtain ⟨m, v, st1, hc, hs, n, f', st2, h1, h2⟩ := h
  subst hl
  refine ⟨max m n, f', st2, ?_, h2⟩
  simp only [runPlan, ho, hw, hh, Bool.false_eq_true, if_false, hoist, wrOp, hg, call_to (m := max m n) hc (by omega)]
  refine (if_pos ?_).trans ?_
  · exact hs
  exact runPlan_le (callF_le n (max m n) (by omega)) ops _ _ h1
end

/-! Calls. -/
def Lv (C : Cfg) (fn : Func) (k : FuncId) (n0 : Nat) (Q : V → St → Prop) : Ex → Fr → St → Prop
  | .normal, f, st | .ret, f, st => f.d = [] ∧ ∃ vs, resultsV C st.H f.t fn.results.toList = some vs ∧ Q (leaveV C k n0 (packV vs) st).1 (leaveV C k n0 (packV vs) st).2
  | _, _, _ => False

theorem Fn.of {k : FuncId} {fn : Func} {c : Code} {args : List V} {st : St} {Q : V → St → Prop} (hf : C.P.funcs[k]? = some fn) (hx : C.X k args st = none) (hp : C.pure k = false) (hb : fn.body = some c) (hl : decide (args.length ≤ fn.ntmps) = true)
    (h : Ev C c ⟨frame0 fn.ntmps args, []⟩ st (Lv C fn k st.n Q)) : Fn C k args st Q := by
  obtain ⟨n, e, f', st', h1, h2⟩ := h
  have hl := of_decide_eq_true hl
  have key : ∀ (vs : List V), f'.d = [] → resultsV C st'.H f'.t fn.results.toList = some vs → (e = .normal ∨ e = .ret) → callF C (n + 1) k args st = some (leaveV C k st.n (packV vs) st') := by
    intro vs hd hr he
    simp only [callF, hx, hf, hb, hl, if_true, h1, hd, List.isEmpty_nil, he, and_self, hr, hp, Bool.false_eq_true, if_false]
  cases e
  case normal => obtain ⟨hd, vs, hr, hq⟩ := h2; exact ⟨n + 1, _, _, key vs hd hr (.inl rfl), hq⟩
  case ret => obtain ⟨hd, vs, hr, hq⟩ := h2; exact ⟨n + 1, _, _, key vs hd hr (.inr rfl), hq⟩
  all_goals exact h2.elim

/-- A call with a memory of its own. -/
theorem Fn.pure {k : FuncId} {fn : Func} {c : Code} {args : List V} {st : St} {Q : V → St → Prop} (hf : C.P.funcs[k]? = some fn) (hx : C.X k args st = none) (hp : C.pure k = true) (hb : fn.body = some c) (hl : decide (args.length ≤ fn.ntmps) = true) (ha : pureVs (args.map unown) = true)
    (h : Ev C c ⟨frame0 fn.ntmps (args.map unown), []⟩ ⟨[], 0⟩ (Lv C fn k 0 fun v _ => pureV v = true ∧ Q v st)) : Fn C k args st Q := by
  obtain ⟨n, e, f', st', h1, h2⟩ := h
  have hl := of_decide_eq_true hl
  have key : ∀ (vs : List V), f'.d = [] → resultsV C st'.H f'.t fn.results.toList = some vs → (e = .normal ∨ e = .ret) → pureV (leaveV C k 0 (packV vs) st').1 = true → callF C (n + 1) k args st = some ((leaveV C k 0 (packV vs) st').1, st) := by
    intro vs hd hr he hv
    simp only [callF, hx, hf, hb, hl, if_true, h1, hd, List.isEmpty_nil, he, and_self, hr, hp, ha, hv]
  cases e
  case normal => obtain ⟨hd, vs, hr, hv, hq⟩ := h2; exact ⟨n + 1, _, _, key vs hd hr (.inl rfl) hv, hq⟩
  case ret => obtain ⟨hd, vs, hr, hv, hq⟩ := h2; exact ⟨n + 1, _, _, key vs hd hr (.inr rfl) hv, hq⟩
  all_goals exact h2.elim

theorem Fn.ofX {k : FuncId} {args : List V} {st : St} {Q : V → St → Prop} {v : V} {st' : St} (h : C.X k args st = some (v, st')) (hq : Q v st') : Fn C k args st Q :=
  ⟨1, v, st', by simp only [callF, h], hq⟩

/-- **What a call answers, the program's call answers.** -/
theorem Fn.sound (hC : COk C) (hP : GlobPure C) (hX : XOk C) {k : FuncId} {args : List V} {st : St} {Q : V → St → Prop} (h : Fn C k args st Q) {g : Ghost} {w0 : W0} {base : Nat} {w : World} {args' : Array Value} (hG : GR g st w0 base w) (hgl : GlobR C g w0 base) (ha : VRl g args args'.toList) :
    Calls C.P k args' w fun e w' => ∃ v st' v' g', Q v st' ∧ e = .returned v' ∧ VR g' v v' ∧ GR g' st' w0 base w' := by
  obtain ⟨n, v, st', h1, h2⟩ := h
  obtain ⟨_, _, h3⟩ := callF_sound hC hP hX n k args st v st' h1
  exact (h3 g w0 base w args' hG hgl ha).mono fun e w' ⟨v', g', he, _, hv, hg⟩ => ⟨v, st', v', g', h2, he, hv, hg⟩
end
end Go.Vm
