/- What an operation yields by the evaluator, it yields in the model: each operation that leaves memory alone. -/
import Derived.Test.YtklcmgodhpediaaGreatDoorN4
set_option linter.unusedSimpArgs false
set_option linter.unusedVariables false
namespace Go.Vm
open Go Go.RowKit

section
variable {C : Cfg} {g : Ghost} {w : World}

theorem eqT_agg {n : Nat} {t : TypeId} {xs : List V} {y : V} {r : Bool} (h : eqT C n t (.agg xs) y = some r) : t ∈ C.eqs := by
  cases n with
  | zero => simp [eqT] at h
  | succ n =>
    simp only [eqT] at h
    split at h
    · cases h
    · split at h
      · split at h
        · rename_i hc; simpa using hc
        · cases h
      · cases h
    · rename_i u _ _; cases u <;> simp [eqU] at h

theorem VR_nilIface {x : V} (h : VR g x .nilIface) : x = .niliface ∨ x = .any := by
  cases x <;> simp only [VR] at h <;> first
    | exact .inl rfl
    | exact .inr rfl
    | (cases h; done)
    | (obtain ⟨_, _, h⟩ := h; cases h; done)
    | (obtain ⟨_, h, _⟩ := h; cases h; done)
    | (obtain ⟨_, _, _, h, _⟩ := h; cases h; done)
    | (obtain ⟨_, _, h, _⟩ := h; cases h; done)
    | (obtain ⟨_, _, _, _, h, _⟩ := h; cases h; done)

theorem VR_aggVal {x : V} {cs : Array Value} (h : VR g x (.agg cs)) : (∃ xs, x = .agg xs) ∨ x = .any := by
  cases x <;> simp only [VR] at h <;> first
    | exact .inl ⟨_, rfl⟩
    | exact .inr rfl
    | (cases h; done)
    | (obtain ⟨_, _, h⟩ := h; cases h; done)
    | (obtain ⟨_, h, _⟩ := h; cases h; done)
    | (obtain ⟨_, _, _, h, _⟩ := h; cases h; done)
    | (obtain ⟨_, _, h, _⟩ := h; cases h; done)
    | (obtain ⟨_, _, _, _, h, _⟩ := h; cases h; done)

theorem eqT_any {n : Nat} {t : TypeId} {y : V} : eqT C n t .any y = none := by
  cases n with
  | zero => rfl
  | succ n =>
    simp only [eqT]
    split
    · rfl
    · rfl
    · rename_i u _ _; cases u <;> rfl

theorem eqT_niliface {n : Nat} {t : TypeId} : eqT C n t .niliface .niliface = none := by
  cases n with
  | zero => rfl
  | succ n =>
    simp only [eqT]
    split
    · rfl
    · rfl
    · rename_i u _ _; cases u <;> rfl

theorem eqT_nilany {n : Nat} {t : TypeId} : eqT C n t .niliface .any = none := by
  cases n with
  | zero => rfl
  | succ n =>
    simp only [eqT]; split
    · rfl
    · rfl
    · rename_i u _ _; cases u <;> rfl

theorem run_eqGuard (op : BinOp) (t : TypeId) (ox oy : Operand) (a b : Value) (h1 : a = .nilIface → b = .nilIface → (isNilWord ox || isNilWord oy) = true)
    (h2 : (∃ c, a = .agg c) → C.P.eqGuardType C.P.depth t = false) (w : World) : (eqGuard op t ox oy a b).run C.P w = .ok () w := by
  have key : ∀ op, op = .eql ∨ op = .neq → (eqGuard op t ox oy a b).run C.P w = .ok () w := by
    intro op hop
    cases a <;> first
      | (rcases hop with rfl | rfl <;> rfl)
      | skip
    · cases b <;> first
        | (rcases hop with rfl | rfl <;> rfl)
        | skip
      have := h1 rfl rfl
      rcases hop with rfl | rfl <;> cases ox <;> cases oy <;> first
        | rfl
        | (simp [isNilWord] at this; done)
    · cases b <;> first
        | (rcases hop with rfl | rfl <;> rfl)
        | skip
      have := h2 ⟨_, rfl⟩
      rcases hop with rfl | rfl <;> simp [eqGuard, this]
  cases op <;> first
    | exact key _ (.inl rfl)
    | exact key _ (.inr rfl)
    | rfl

/-- The guard ahead of '==' lets by what the evaluator knows. -/
theorem run_eqGuard_eqT (hC : COk C) {n : Nat} {op : BinOp} {t : TypeId} {x y : V} {r : Bool} (h : eqT C n t x y = some r) {x' y' : Value} (hx : VR g x x') (hy : VR g y y') (ox oy : Operand) (w : World) :
    (eqGuard op t ox oy x' y').run C.P w = .ok () w := by
  refine run_eqGuard op t ox oy x' y' (fun e1 e2 => ?_) (fun ⟨c, e⟩ => ?_) w
  · exfalso
    subst e1; subst e2
    rcases VR_nilIface hx with rfl | rfl <;> rcases VR_nilIface hy with rfl | rfl
    · rw [eqT_niliface] at h; cases h
    · rw [eqT_nilany] at h; cases h
    · rw [eqT_any] at h; cases h
    · rw [eqT_any] at h; cases h
  · subst e
    rcases VR_aggVal hx with ⟨xs, rfl⟩ | rfl
    · exact (hC.eqs t (eqT_agg h)).1
    · rw [eqT_any] at h; cases h

/-- A value that is neither a number nor a text. -/
def plainV : V → Bool
  | .bool _ | .nilptr | .ptr _ _ | .cptr _ | .iface _ _ | .niliface | .nilmap | .map _ | .nilfunc | .func _ _ _ | .agg _ => true
  | _ => false
def numVal : Value → Bool
  | .int _ _ | .float _ _ | .complex _ _ _ | .string _ => true
  | _ => false

theorem plainV_num {x : V} (h : plainV x = true) {x' : Value} (hx : VR g x x') : numVal x' = false := by
  cases x <;> simp only [plainV, Bool.false_eq_true] at h <;> simp only [VR] at hx <;> first
    | (subst hx; rfl)
    | (obtain ⟨_, _, rfl⟩ := hx; rfl)
    | (obtain ⟨_, rfl, _⟩ := hx; rfl)
    | (obtain ⟨_, _, _, rfl, _⟩ := hx; rfl)
    | (obtain ⟨_, _, rfl, _⟩ := hx; rfl)

theorem eqT_shape {n : Nat} {t : TypeId} {x y : V} {r : Bool} (h : eqT C n t x y = some r) :
    (∃ k a k' b, x = .int k a ∧ y = .int k' b) ∨ (∃ a b, x = .str a ∧ y = .str b) ∨ plainV x = true := by
  cases n with
  | zero => simp [eqT] at h
  | succ n =>
    simp only [eqT] at h
    split at h
    · cases h
    · split at h
      · exact .inr (.inr rfl)
      · cases h
    · unfold eqU at h
      split at h <;> first
        | exact .inl ⟨_, _, _, _, rfl, rfl⟩
        | exact .inr (.inl ⟨_, _, rfl, rfl⟩)
        | exact .inr (.inr rfl)
        | (cases h; done)

theorem binOp_eql (t : TypeId) {x y : Value} (h : numVal x = false) : binOp .eql t x y = (do pure (.bool (← Op.equal t x y))) := by
  cases x <;> first
    | (simp [numVal] at h; done)
    | rfl
theorem binOp_neq (t : TypeId) {x y : Value} (h : numVal x = false) : binOp .neq t x y = (do pure (.bool (!(← Op.equal t x y)))) := by
  cases x <;> first
    | (simp [numVal] at h; done)
    | rfl

theorem run_equalIn_nils {t : TypeId} {ms : Array (String × TypeId)} (hu : C.P.underlying t = some (.interface ms)) (d : Nat) (w : World) : (Op.equalIn (d + 1) t .nilIface .nilIface).run C.P w = .ok true w := by
  simp [Op.equalIn, run_underlying hu]

theorem ifaceEq_sound {t tx ty : TypeId} {ms : Array (String × TypeId)} {vx vy : V} {r : Bool} (hu : C.P.underlying t = some (.interface ms)) (h : ifaceEq C tx vx ty vy = some r) {x' y' : Value} (hx : VR g vx x') (hy : VR g vy y') (d : Nat) (w : World) :
    (Op.equalIn (d + 2) t (.iface tx x') (.iface ty y')).run C.P w = .ok r w := by
  unfold ifaceEq at h
  split at h
  · rename_i ht
    subst ht
    split at h
    · rename_i i k0 k a k' b hi hut
      split at h
      · rename_i hc
        obtain ⟨hc, rfl⟩ := hc
        cases h
        simp only [VR] at hx hy; subst hx; subst hy
        simp [Op.equalIn, run_underlying hu, run_underlying hut, typeInfo, hi, hc]
      · cases h
    · rename_i i a b hi hut
      split at h
      · rename_i hc
        cases h
        simp only [VR] at hx hy; subst hx; subst hy
        simp [Op.equalIn, run_underlying hu, run_underlying hut, typeInfo, hi, hc, beq_toListBytes, bytes_toList]
      · cases h
    · cases h
  · rename_i ht
    cases h
    simp [Op.equalIn, run_underlying hu, ht]

theorem binV_sound (hC : COk C) {nils : Bool} {op : BinOp} {t : TypeId} {x y v : V} (h : binV C nils op t x y = some v) {x' y' : Value} (hx : VR g x x') (hy : VR g y y') {ox oy : Operand}
    (hn : nils = (isNilWord ox || isNilWord oy)) (w : World) :
    ∃ v', ((do eqGuard op t ox oy x' y'; binOp op t x' y' : Sem Value)).run C.P w = .ok v' w ∧ VR g v v' := by
  unfold binV at h
  split at h
  · -- whole numbers
    rename_i k a k' b
    simp only [VR] at hx hy; subst hx; subst hy
    have hg : (eqGuard op t ox oy (.int k a) (.int k' b)).run C.P w = .ok () w := run_eqGuard op t ox oy _ _ (fun e => by cases e) (fun ⟨_, e⟩ => by cases e) w
    simp only [Sem.run_bind, hg, Result.andThen_ok]
    split at h
    · exact run_shiftBin h (.inl rfl) t w
    · exact run_shiftBin h (.inr rfl) t w
    · split at h
      · rename_i hk; subst hk; exact run_intBin h t w
      · cases h
  · -- texts
    rename_i a b
    simp only [VR] at hx hy; subst hx; subst hy
    have hg : (eqGuard op t ox oy (.string ⟨a.toArray⟩) (.string ⟨b.toArray⟩)).run C.P w = .ok () w := run_eqGuard op t ox oy _ _ (fun e => by cases e) (fun ⟨_, e⟩ => by cases e) w
    simp only [Sem.run_bind, hg, Result.andThen_ok]
    have : binOp op t (.string ⟨a.toArray⟩) (.string ⟨b.toArray⟩) = Op.stringOp op ⟨a.toArray⟩ ⟨b.toArray⟩ := by cases op <;> rfl
    rw [this]
    exact run_stringOp h w
  · -- nil and nil
    simp only [VR] at hx hy; subst hx; subst hy
    split at h
    · rename_i ms hu
      split at h
      · rename_i hns
        have hg : (eqGuard op t ox oy .nilIface .nilIface).run C.P w = .ok () w := run_eqGuard op t ox oy _ _ (fun _ _ => by rw [← hn]; exact hns) (fun ⟨_, e⟩ => by cases e) w
        simp only [Sem.run_bind, hg, Result.andThen_ok]
        split at h
        · cases h
          have he : (Op.equal t .nilIface .nilIface).run C.P w = .ok true w := run_equalIn_nils hu 9999 w
          exact ⟨.bool true, by rw [binOp_eql t rfl]; simp only [Sem.run_bind, he, Result.andThen_ok, Sem.run_pure], rfl⟩
        · cases h
          have he : (Op.equal t .nilIface .nilIface).run C.P w = .ok true w := run_equalIn_nils hu 9999 w
          exact ⟨.bool false, by rw [binOp_neq t rfl]; simp only [Sem.run_bind, he, Result.andThen_ok, Sem.run_pure]; rfl, rfl⟩
        · cases h
      · cases h
    · cases h
  · -- interfaces
    rename_i tx vx ty vy
    simp only [VR] at hx hy
    obtain ⟨x', rfl, hx⟩ := hx
    obtain ⟨y', rfl, hy⟩ := hy
    have hg : (eqGuard op t ox oy (.iface tx x') (.iface ty y')).run C.P w = .ok () w := run_eqGuard op t ox oy _ _ (fun e => by cases e) (fun ⟨_, e⟩ => by cases e) w
    simp only [Sem.run_bind, hg, Result.andThen_ok]
    split at h
    · rename_i ms hu
      split at h
      · rw [Option.map_eq_some_iff] at h
        obtain ⟨r, hr, rfl⟩ := h
        have he : (Op.equal t (.iface tx x') (.iface ty y')).run C.P w = .ok r w := ifaceEq_sound hu hr hx hy 9998 w
        exact ⟨.bool r, by rw [binOp_eql t rfl]; simp only [Sem.run_bind, he, Result.andThen_ok, Sem.run_pure], rfl⟩
      · rw [Option.map_eq_some_iff] at h
        obtain ⟨r, hr, rfl⟩ := h
        have he : (Op.equal t (.iface tx x') (.iface ty y')).run C.P w = .ok r w := ifaceEq_sound hu hr hx hy 9998 w
        exact ⟨.bool (!r), by rw [binOp_neq t rfl]; simp only [Sem.run_bind, he, Result.andThen_ok, Sem.run_pure], rfl⟩
      · cases h
    · cases h
  · rename_i h1 h2 h3 h4
    have key : ∀ r, eqT C 9 t x y = some r → ∀ w, (Op.equal t x' y').run C.P w = .ok r w := fun r hr w => eqT_sound hC 9 hr hx hy 10000 (by omega) w
    have bin : ∀ r, eqT C 9 t x y = some r → numVal x' = false := by
      intro r hr
      rcases eqT_shape hr with ⟨_, _, _, _, rfl, rfl⟩ | ⟨_, _, rfl, rfl⟩ | hp
      · exact absurd rfl (h1 _ _ _ _ rfl)
      · exact absurd rfl (h2 _ _ rfl)
      · exact plainV_num hp hx
    split at h
    · cases hr : eqT C 9 t x y with
      | none => rw [hr] at h; cases h
      | some r =>
        rw [hr] at h; cases h
        simp only [Sem.run_bind, run_eqGuard_eqT hC hr hx hy, Result.andThen_ok, binOp_eql t (bin r hr), key r hr, Sem.run_pure]
        exact ⟨_, rfl, rfl⟩
    · cases hr : eqT C 9 t x y with
      | none => rw [hr] at h; cases h
      | some r =>
        rw [hr] at h; cases h
        simp only [Sem.run_bind, run_eqGuard_eqT hC hr hx hy, Result.andThen_ok, binOp_neq t (bin r hr), key r hr, Sem.run_pure]
        exact ⟨_, rfl, rfl⟩
    · cases h
end
end Go.Vm
