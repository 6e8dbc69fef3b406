/- What the evaluator answers, the model answers: operations in the text's order. -/
import Derived.Test.YtklcmgodhpediaaGreatDoorN90
import Derived.Test.YtklcmgodhpediaaGreatDoorN10
set_option linter.unusedSimpArgs false
set_option linter.unusedVariables false
namespace Go.Vm
open Go Go.RowKit

/-- A ghost that says more, and nothing new of the names below n. -/
structure Ext (n : Nat) (g g' : Ghost) : Prop where
  le : g.le g'
  old : ∀ i, i < n → g'.κ i = g.κ i ∧ g'.θ i = g.θ i

theorem Ext.refl (n : Nat) (g : Ghost) : Ext n g g := ⟨Ghost.le.refl g, fun _ _ => ⟨rfl, rfl⟩⟩
theorem Ext.trans {n m : Nat} {a b c : Ghost} (h : Ext n a b) (k : Ext m b c) (hn : n ≤ m) : Ext n a c :=
  ⟨h.le.trans k.le, fun i hi => ⟨((k.old i (by omega)).1).trans (h.old i hi).1, ((k.old i (by omega)).2).trans (h.old i hi).2⟩⟩
theorem Ext.mono {n m : Nat} {a b : Ghost} (h : Ext m a b) (hn : n ≤ m) : Ext n a b := ⟨h.le, fun i hi => h.old i (by omega)⟩

/-- Package-level variables are what the evaluator is told. -/
structure GlobR (C : Cfg) (g : Ghost) (w0 : W0) (base : Nat) : Prop where
  vr : ∀ i, VR g (C.glob i) (.pointer (some ⟨i, 0, none⟩))
  inv : C.I w0.w
  lo : C.lo ≤ base
theorem GlobR.mono {C : Cfg} {g g' : Ghost} {w0 : W0} {base : Nat} (h : g.le g') (k : GlobR C g w0 base) : GlobR C g' w0 base := ⟨fun i => (k.vr i).mono h, k.inv, k.lo⟩

/-- **A call answers v and leaves st'.** -/
def AC (C : Cfg) (k : FuncId) (args : List V) (st : St) (v : V) (st' : St) : Prop :=
  st.n ≤ st'.n ∧ (∃ fn, C.P.funcs[k]? = some fn ∧ fn.body.isSome = true) ∧
  ∀ (g : Ghost) (w0 : W0) (base : Nat) (w : World) (args' : Array Value), GR g st w0 base w → GlobR C g w0 base → VRl g args args'.toList →
    Calls C.P k args' w fun e w' => ∃ v' g', e = .returned v' ∧ Ext st.n g g' ∧ VR g' v v' ∧ GR g' st' w0 base w'

def KOk (C : Cfg) (K : FuncId → List V → St → Option (V × St)) : Prop := ∀ k args st v st', K k args st = some (v, st') → AC C k args st v st'

/-! ### Frames -/
theorem tget_tset : ∀ (l : List (Nat × V)) (d t : Nat) (v : V), tget (tset l d v) t = if t = d then v else tget l t
  | [], d, t, v => by
    simp only [tset, tget]
    by_cases h : d = t
    · subst h; simp
    · simp [h, Ne.symm h]
  | (i, u) :: r, d, t, v => by
    simp only [tset]
    by_cases hi : i = d
    · subst hi
      simp only [beq_self_eq_true, if_true, tget]
      by_cases h : i = t
      · subst h; simp
      · simp [h, Ne.symm h]
    · have hi' : (i == d) = false := by simp [hi]
      simp only [hi', Bool.false_eq_true, if_false, tget]
      by_cases h : i = t
      · subst h; simp [hi]
      · simp [h, tget_tset r d t v]

inductive DR (g : Ghost) : List (V × List V) → List Deferred → Prop
  | nil : DR g [] []
  | cons {k : FuncId} {ca args : List V} {d : Deferred} {r : List (V × List V)} {ds : List Deferred} {ca' : Array Value} :
      d.target = .fn (.func k) ca' → VRl g ca ca'.toList → VRl g args d.args.toList → DR g r ds → DR g ((.func (.func k) [] ca, args) :: r) (d :: ds)

theorem DR.mono {g g' : Ghost} (h : g.le g') {r : List (V × List V)} {ds : List Deferred} (k : DR g r ds) : DR g' r ds := by
  induction k with
  | nil => exact .nil
  | cons a b c _ ih => exact .cons a (VRl.mono h _ _ b) (VRl.mono h _ _ c) ih

structure FR (g : Ghost) (f : Fr) (a : Act) : Prop where
  t : ∀ i, VR g (tget f.t i) (a.tmps.getD i undef)
  d : DR g f.d a.defers

theorem FR.mono {g g' : Ghost} (h : g.le g') {f : Fr} {a : Act} (k : FR g f a) : FR g' f a := ⟨fun i => (k.t i).mono h, k.d.mono h⟩

section
variable {C : Cfg} {g : Ghost} {w : World} {st : St} {w0 : W0} {base : Nat} {K : FuncId → List V → St → Option (V × St)}

theorem FR.eval {f : Fr} {a : Act} (h : FR g f a) {w0 : W0} {base : Nat} (hg : GlobR C g w0 base) (x : Operand) : VR g (evalO C f x) (a.eval x) := by
  cases x with
  | tmp t => exact h.t t
  | const v => exact ofVal_VR g v
  | global i => exact hg.vr i
  | func k => exact ⟨#[], #[], rfl, rfl, rfl⟩

theorem VR_undef (g : Ghost) : VR g (.tup []) undef := ⟨#[], rfl, rfl⟩

theorem getD_put (a : Act) {d : Tmp} (hd : d < a.tmps.size) (v : Value) (t : Nat) : (a.put (some d) v).tmps.getD t undef = if t = d then v else a.tmps.getD t undef := by
  simp only [Act.put]
  by_cases h : t = d
  · subst h; simp [hd]
  · simp [h, Array.getElem?_setIfInBounds_ne (Ne.symm h)]

theorem FR.put {f : Fr} {a : Act} (h : FR g f a) {dst : Option Tmp} (hd : ∀ d, dst = some d → d < a.tmps.size) {v : V} {v' : Value} (hv : VR g v v') : FR g (f.put dst v) (a.put dst v') := by
  cases dst with
  | none => exact h
  | some d =>
    refine ⟨fun i => ?_, h.d⟩
    rw [getD_put a (hd d rfl) v' i]
    simp only [Fr.put, tget_tset]
    split
    · exact hv
    · exact h.t i

theorem size_put (a : Act) (dst : Option Tmp) (v : Value) : (a.put dst v).tmps.size = a.tmps.size := by
  cases dst <;> simp [Act.put]

/-- Is an operation to be done? As the evaluator says. -/
theorem wantedV_sound {f : Fr} {a : Act} {ops : Array Oper} {o : Oper} (ht : ∀ i, (∃ gw, o.guard = some gw ∧ (ops[gw.1]?).bind (·.dst) = some i) → VR g (tget f.t i) (a.tmps.getD i undef)) (hsz : ∀ i, (∃ gw, o.guard = some gw ∧ (ops[gw.1]?).bind (·.dst) = some i) → i < a.tmps.size) {b : Bool} (h : wantedV f ops o = some b) :
    Region.wanted o (yielded ops a.tmps) = b := by
  unfold wantedV at h
  unfold Region.wanted
  cases hg : o.guard with
  | none => rw [hg] at h; cases h; rfl
  | some gw =>
    obtain ⟨j, want⟩ := gw
    rw [hg] at h
    simp only at h ⊢
    unfold yielded
    cases hd : (ops[j]?).bind (·.dst) with
    | none => rw [hd] at h; cases h; simp
    | some d =>
      rw [hd] at h
      simp only at h
      have hv := ht d ⟨(j, want), hg, hd⟩
      have hlt := hsz d ⟨(j, want), hg, hd⟩
      simp only [Option.bind_some]
      have hget : a.tmps[d]? = some (a.tmps.getD d undef) := by simp [hlt]
      rw [hget]
      cases hx : tget f.t d <;> rw [hx] at h hv <;> simp only [reduceCtorEq, Option.some.injEq] at h
      case bool b' =>
        simp only [VR] at hv
        rw [hv]
        subst h
        simp only
        cases b' <;> cases want <;> rfl
      case tup vs =>
        obtain ⟨us, hu, _⟩ := hv
        rw [hu]
        subst h
        simp

/-! ### Calls of functions -/
theorem funcs_name (hC : COk C) {k : FuncId} {fn : Func} (h : C.P.funcs[k]? = some fn) : (fn.name == "runtime.NumGoroutine") = false ∧ ∀ c, fn.body = some c → codeOk fn.ntmps c = true := by
  have hm : fn ∈ C.P.funcs.toList := by
    rw [← Array.getElem?_toList] at h
    exact List.mem_of_getElem? h
  have := List.all_eq_true.1 hC.funcs fn hm
  simp only [funcOk, Bool.and_eq_true, bne_iff_ne, ne_eq] at this
  exact ⟨by simpa using this.2, fun c hc => by have h1 := this.1; rw [hc] at h1; exact h1⟩

theorem run_callFunc (hC : COk C) {k : FuncId} {fn : Func} (h : C.P.funcs[k]? = some fn) (hb : fn.body.isSome = true) (args : Array Value) (w : World) : (callFunc k args).run C.P w = .ok (.enter k args) w := by
  have h1 := (funcs_name hC h).1
  have h2 : fn.body.isNone = false := by simpa using hb
  simp only [callFunc, Sem.run_bind, run_program, Result.andThen_ok, h, h1, h2, Bool.false_eq_true, if_false, Sem.run_pure]

theorem run_receiverVal {t : TypeId} {d : TypeDesc} (hu : C.P.underlying t = some d) (hd : ∀ e, d ≠ .pointer e) (v : Value) (wr : Option String) (w : World) : (receiverAt t (.val v) false wr).run C.P w = .ok v w := by
  simp only [receiverAt, Sem.run_bind, run_underlying hu, Result.andThen_ok]
  cases d <;> first
    | exact absurd rfl (hd _)
    | rfl
theorem run_receiverPtr {t e : TypeId} (hu : C.P.underlying t = some (.pointer e)) (v : Value) (wr : Option String) (w : World) : (receiverAt t (.val v) true wr).run C.P w = .ok v w := by
  simp only [receiverAt, Sem.run_bind, run_underlying hu, Result.andThen_ok]
  rfl

theorem methodV_sound (hC : COk C) {t : TypeId} {v : V} {name : String} {k : FuncId} {x : V} (h : methodV C t v name = some (k, x)) {v' : Value} (hv : VR g v v') (n : Nat) (w : World) :
    ∃ x', (method (n + 1) t v' name).run C.P w = .ok (k, x') w ∧ VR g x x' := by
  unfold methodV at h
  split at h
  · rename_i m hm
    split at h
    · rename_i hp
      cases hi : C.P.info? t with
      | none => rw [hi] at hm; cases hm
      | some i =>
        rw [hi, Option.bind_some] at hm
        have hpath : m.path.toList = [] := by simpa using hp
        split at h
        · rename_i f e hf hu
          cases h
          refine ⟨v', ?_, hv⟩
          simp only [method, typeInfo, Sem.run_bind, run_program, Result.andThen_ok, hi, Sem.run_pure, hm, hpath, follow, hf, run_receiverPtr hu]
        · cases h
        · cases h
        · rename_i f d hnot hf hu
          cases h
          refine ⟨v', ?_, hv⟩
          have hd : ∀ e, d ≠ .pointer e := fun e he => by subst he; simp_all
          simp only [method, typeInfo, Sem.run_bind, run_program, Result.andThen_ok, hi, Sem.run_pure, hm, hpath, follow, hf, run_receiverVal hu hd]
        · cases h
    · cases h
  · cases h

/-! ### Slices held against nil -/
theorem run_nilSl {op : BinOp} (ho : op = .eql ∨ op = .neq) {t e : TypeId} (hu : C.P.underlying t = some (.slice e)) (ox oy : Operand) (a : Option Addr) (n cap : Nat) (w : World) :
    ((do eqGuard op t ox oy (.slice a n cap) (.slice none 0 0); binOp op t (.slice a n cap) (.slice none 0 0) : Sem Value)).run C.P w = .ok (.bool (if op = .eql then a.isNone else !a.isNone)) w := by
  have key : ∀ d, (Op.equalIn (d + 1) t (.slice a n cap) (.slice none 0 0)).run C.P w = .ok a.isNone w := fun d => by
    cases a <;> simp only [Op.equalIn, Sem.run_bind, run_underlying hu, Result.andThen_ok] <;> rfl
  have k2 : (Op.equal t (.slice a n cap) (.slice none 0 0)).run C.P w = .ok a.isNone w := key 9999
  have k3 : (eqGuard op t ox oy (.slice a n cap) (.slice none 0 0)).run C.P w = .ok () w := by
    rcases ho with rfl | rfl <;> rfl
  rw [Sem.run_bind, k3, Result.andThen_ok]
  rcases ho with rfl | rfl
  · rw [binOp_eql t rfl, Sem.run_bind, k2]; rfl
  · rw [binOp_neq t rfl, Sem.run_bind, k2]; rfl

theorem isNilSl_eval {y : Operand} (h : isNilSl y = true) (a : Act) : a.eval y = .slice none 0 0 := by
  unfold isNilSl at h
  split at h
  · rfl
  · cases h

theorem nilSlV_spec {g : Ghost} {op : BinOp} {x v : V} (h : nilSlV op x = some v) {x' : Value} (hx : VR g x x') : (op = .eql ∨ op = .neq) ∧ ∃ a n cap, x' = .slice (some a) n cap ∧ v = .bool (if op = .eql then false else true) := by
  unfold nilSlV at h
  split at h
  · obtain ⟨a, cap, vs, S, rfl, _, _, _, h5⟩ := hx
    obtain ⟨B, o, rfl, _⟩ := h5 (by simp)
    split at h
    · cases h; exact ⟨.inl rfl, _, _, _, rfl, rfl⟩
    · cases h; exact ⟨.inr rfl, _, _, _, rfl, rfl⟩
    · cases h
  · obtain ⟨B, _, cap', rfl, _⟩ := hx
    split at h
    · cases h; exact ⟨.inl rfl, _, _, _, rfl, rfl⟩
    · cases h; exact ⟨.inr rfl, _, _, _, rfl, rfl⟩
    · cases h
  · cases h

/-! ### Names are never given twice -/
theorem appendM_n {st st' : St} {t : TypeId} {x y v : V} (h : appendM C st t x y = some (v, st')) : st.n ≤ st'.n := by
  unfold appendM at h
  split at h
  · split at h
    · split at h
      · split at h
        · cases h; exact Nat.le_refl _
        · split at h
          · split at h
            · split at h
              · cases h; simp
              · cases h
            · cases h
          · split at h
            · cases h; simp
            · cases h
          · cases h
      · cases h
    · cases h
  · cases h
theorem appendV_n {st st' : St} {t : TypeId} {x y v : V} (h : appendV C st t x y = some (v, st')) : st.n ≤ st'.n := by
  unfold appendV at h
  split at h
  · exact appendM_n h
  · split at h
    · split at h
      · split at h
        · cases h; exact Nat.le_refl _
        · split at h
          · split at h
            · cases h
            · split at h
              · exact appendM_n h
              · cases h; simp
            · split at h
              · split at h
                · cases h; simp
                · cases h
              · cases h
          · cases h
      · cases h
    · cases h
  · cases h

theorem wrOp_n (hK : KOk C K) {ρ : Operand → V} {op : Op} {v : V} {st st' : St} (h : wrOp C K ρ st op = some (v, st')) : st.n ≤ st'.n := by
  cases op <;> simp only [wrOp, reduceCtorEq] at h
  case store t x y => cases hs : storeH C st.H t (ρ x) (ρ y) <;> rw [hs] at h <;> cases h; exact Nat.le_refl _
  case mapUpdate t m k y => cases hs : mapUpdH C st.H t (ρ m) (ρ k) (ρ y) <;> rw [hs] at h <;> cases h; exact Nat.le_refl _
  case insert t m k y => cases hs : mapUpdH C st.H t (ρ m) (ρ k) (ρ y) <;> rw [hs] at h <;> cases h; exact Nat.le_refl _
  case range t x => exact rangeV_n h
  case next it s => cases s <;> simp only [wrOp, reduceCtorEq] at h; exact nextV_n h
  case entry it => rw [entryV_st h]; exact Nat.le_refl _
  case binOp op t x y yt =>
    split at h
    · split at h
      · cases hv : nilSlV op (ρ x) <;> rw [hv] at h <;> cases h; exact Nat.le_refl _
      · cases h
    · cases h
  case call c =>
    obtain ⟨callee, args, argTypes⟩ := c
    cases callee
    case value q =>
      simp only at h
      cases hqv : ρ q <;> rw [hqv] at h <;> (first | (cases h; done) | skip)
      rename_i fn fi ca
      cases fn <;> (first | (cases h; done) | skip)
      exact (hK _ _ _ _ _ h).1
    case invoke r name =>
      simp only at h
      cases hrv : ρ r <;> rw [hrv] at h <;> (first | (cases h; done) | skip)
      simp only at h
      split at h
      · exact (hK _ _ _ _ _ h).1
      · cases h
    case builtin b =>
      cases b <;> (first | (cases h; done) | skip)
      simp only at h
      split at h
      · split at h
        · exact appendV_n h
        · exact appendV_n h
        · cases h
      · cases h

theorem add_n (st : St) (ob : Option Ob) : st.n ≤ (st.add ob).n := by cases ob <;> simp [St.add]

theorem quietOp_n {f : Fr} {op : Op} {v : V} {st st' : St} (h : quietOp C f st op = some (v, st')) : st.n ≤ st'.n := by
  unfold quietOp at h
  split at h
  · cases h; exact Nat.le_refl _
  · split at h
    · cases h; exact add_n _ _
    · cases h

theorem runOp_n (hK : KOk C K) {f f' : Fr} {o : Oper} {st st' : St} (h : runOp C K f st o = some (f', st')) : st.n ≤ st'.n := by
  unfold runOp at h
  split at h
  · rename_i hq; cases h; exact quietOp_n hq
  · split at h
    · split at h
      · cases h; exact Nat.le_refl _
      · cases h
    · cases hw : wrOp C K (evalO C f) st o.op with
      | none => rw [hw] at h; cases h
      | some r => rw [hw] at h; cases h; exact wrOp_n hK hw

theorem runOps_n (hK : KOk C K) (ops : Array Oper) : ∀ (l : List Oper) {f f' : Fr} {st st' : St}, runOps C K ops l f st = some (f', st') → st.n ≤ st'.n
  | [], f, f', st, st', h => by simp only [runOps, Option.some.injEq, Prod.mk.injEq] at h; rw [h.2]; exact Nat.le_refl _
  | o :: rest, f, f', st, st', h => by
    simp only [runOps] at h
    split at h
    · split at h
      · rename_i hop; exact Nat.le_trans (runOp_n hK hop) (runOps_n hK ops rest h)
      · cases h
    · exact runOps_n hK ops rest h
    · cases h

/-- **Operations that may change memory.** -/
theorem wr_sound (hC : COk C) (hK : KOk C K) (hG : GR g st w0 base w) (hgl : GlobR C g w0 base) {ρ : Operand → V} {a : Act} (o : Oper) (hρ : ∀ x, VR g (ρ x) (a.eval x)) {v : V} {st' : St} (h : wrOp C K ρ st o.op = some (v, st')) :
    ∀ (Kc : Act → World → Prop) (Q : Exit → Act → World → Prop), (∀ g' v' w', Ext st.n g g' → VR g' v v' → GR g' st' w0 base w' → Kc (a.put o.dst v') w') → o.wp C.P a w Kc Q := by
  have enter : ∀ (k : FuncId) (args : List V) (args' : Array Value), K k args st = some (v, st') → VRl g args args'.toList → (execOp a.eval o).run C.P w = .ok (.enter k args') w →
      ∀ (Kc : Act → World → Prop) (Q : Exit → Act → World → Prop), (∀ g' v' w', Ext st.n g g' → VR g' v v' → GR g' st' w0 base w' → Kc (a.put o.dst v') w') → o.wp C.P a w Kc Q := by
    intro k args args' hk hargs hrun
    obtain ⟨h1, _, h3⟩ := hK k args st v st' hk
    intro Kc Q hKc
    unfold Oper.wp
    rw [hrun, Oper.upon_enter]
    refine (h3 g w0 base w args' hG hgl hargs).mono fun e w' ⟨v', g', he, hext, hv, hG'⟩ => ?_
    subst he
    exact hKc g' v' w' hext hv hG'
  obtain ⟨dst, op, type, pos, after, guard⟩ := o
  simp only at h
  cases op <;> simp only [wrOp, reduceCtorEq] at h
  case store t x y =>
    cases hs : storeH C st.H t (ρ x) (ρ y) with
    | none => rw [hs] at h; cases h
    | some H =>
      rw [hs] at h; cases h
      obtain ⟨w', h1, h2⟩ := storeV_sound hG hs (hρ x) (hρ y)
      intro Kc Q hKc
      unfold Oper.wp
      simp only [execOp, Sem.run_bind, h1, Result.andThen_ok, Sem.run_pure, Oper.upon]
      exact hKc g undef w' (Ext.refl _ _) (VR_undef g) h2
  case mapUpdate t m k y =>
    cases hs : mapUpdH C st.H t (ρ m) (ρ k) (ρ y) with
    | none => rw [hs] at h; cases h
    | some H =>
      rw [hs] at h; cases h
      obtain ⟨w', h1, h2⟩ := mapUpdV_sound hG hs (hρ m) (hρ k) (hρ y)
      intro Kc Q hKc
      unfold Oper.wp
      simp only [execOp, Sem.run_bind, h1, Result.andThen_ok, Sem.run_pure, Oper.upon]
      exact hKc g undef w' (Ext.refl _ _) (VR_undef g) h2
  case insert t m k y =>
    cases hs : mapUpdH C st.H t (ρ m) (ρ k) (ρ y) with
    | none => rw [hs] at h; cases h
    | some H =>
      rw [hs] at h; cases h
      obtain ⟨w', h1, h2⟩ := mapUpdV_sound hG hs (hρ m) (hρ k) (hρ y)
      intro Kc Q hKc
      unfold Oper.wp
      simp only [execOp, Sem.run_bind, h1, Result.andThen_ok, Sem.run_pure, Oper.upon]
      exact hKc g undef w' (Ext.refl _ _) (VR_undef g) h2
  case range t x =>
    obtain ⟨v', w', g', h1, h2, h3, h4, h5⟩ := rangeV_sound hG h (hρ x)
    intro Kc Q hKc
    unfold Oper.wp
    simp only [execOp, Sem.run_bind, h1, Result.andThen_ok, Sem.run_pure, Oper.upon]
    exact hKc g' v' w' ⟨h2, h3⟩ h4 h5
  case next it s =>
    cases s <;> simp only [wrOp, reduceCtorEq] at h
    obtain ⟨v', w', h1, h2, h3⟩ := nextV_sound (C := C) hG h (hρ it) type
    intro Kc Q hKc
    unfold Oper.wp
    simp only [execOp, Sem.run_bind, h1, Result.andThen_ok, Sem.run_pure, Oper.upon]
    exact hKc g v' w' (Ext.refl _ _) h2 h3
  case entry it =>
    obtain ⟨rfl, v', h1, h2⟩ := entryV_sound (C := C) hG h (hρ it)
    intro Kc Q hKc
    unfold Oper.wp
    simp only [execOp, Sem.run_bind, h1, Result.andThen_ok, Sem.run_pure, Oper.upon]
    exact hKc g v' w (Ext.refl _ _) h2 hG
  case binOp op t x y yt =>
    split at h
    · rename_i hy
      split at h
      · rename_i e hu
        cases hv : nilSlV op (ρ x) with
        | none => rw [hv] at h; cases h
        | some v2 =>
          rw [hv] at h; cases h
          obtain ⟨ho, a0, n, cap, hx, rfl⟩ := nilSlV_spec hv (hρ x)
          intro Kc Q hKc
          unfold Oper.wp
          have hrun : (execOp a.eval { dst := dst, op := .binOp op t x y yt, type := type, pos := pos, after := after, guard := guard }).run C.P w = .ok (.value (.bool (if op = .eql then false else true))) w := by
            simp only [execOp]
            rw [Sem.run_bind, isNilSl_eval hy a, hx, run_nilSl (C := C) ho hu]
            rfl
          rw [hrun, Oper.upon_value]
          exact hKc g _ w (Ext.refl _ _) rfl hG
      · cases h
    · cases h
  case call c =>
    obtain ⟨callee, args, argTypes⟩ := c
    cases callee
    case value q =>
      simp only at h
      have hq := hρ q
      cases hqv : ρ q <;> rw [hqv] at h hq <;> (first | (cases h; done) | skip)
      rename_i fn fi ca
      cases fn <;> (first | (cases h; done) | skip)
      rename_i k
      obtain ⟨fi', ca', hq', h1, h2⟩ := hq
      simp only at h
      obtain ⟨_, ⟨fn, hf1, hf2⟩, _⟩ := hK _ _ _ _ _ h
      refine enter k _ (fi' ++ args.map a.eval ++ ca') h ?_ ?_
      · simp only [Array.toList_append, Array.toList_map]
        exact (h1.append (VRl.map hρ _)).append h2
      · simp only [execOp, resolve, hq', Deferred.ofValue, Sem.run_bind, Sem.run_pure, Result.andThen_ok, invoke, run_callFunc hC hf1 hf2]
    case invoke r name =>
      simp only at h
      have hr := hρ r
      cases hrv : ρ r <;> rw [hrv] at h hr <;> (first | (cases h; done) | skip)
      rename_i t y
      obtain ⟨y', hr', hy⟩ := hr
      simp only at h
      split at h
      · rename_i k x hm
        obtain ⟨x', h1, h2⟩ := methodV_sound hC hm hy (C.P.types.size + 99) w
        obtain ⟨_, ⟨fn, hf1, hf2⟩, _⟩ := hK _ _ _ _ _ h
        refine enter k _ (#[x'] ++ args.map a.eval) h ?_ ?_
        · simp only [Array.toList_append, Array.toList_map]
          exact ⟨x', _, rfl, h2, VRl.map hρ _⟩
        · have hext : (#[Value.iface t y'] ++ args.map a.eval).extract 1 (#[Value.iface t y'] ++ args.map a.eval).size = args.map a.eval := by
            apply Array.toList_inj.1
            simp [List.extract_eq_take_drop]
            exact List.take_of_length_le (by simp)
          have h0 : (#[Value.iface t y'] ++ args.map a.eval)[0]? = some (Value.iface t y') := by rw [← Array.getElem?_toList]; simp
          have h1' : (method (C.P.types.size + Made.depth) t y' name).run C.P w = .ok (k, x') w := h1
          simp only [execOp, resolve, hr', Sem.run_bind, Sem.run_pure, Result.andThen_ok, invoke, h0, hext, callMethod, run_program, h1', run_callFunc hC hf1 hf2]
      · cases h
    case builtin b =>
      cases b <;> (first | (cases h; done) | skip)
      simp only at h
      split at h
      · rename_i x y t u ha ht
        have e1 : args.map a.eval = #[a.eval x, a.eval y] := by apply Array.toList_inj.1; rw [Array.toList_map, ha]; rfl
        have e2 : argTypes = #[t, u] := by apply Array.toList_inj.1; rw [ht]
        have main : ((∃ e, C.P.underlying u = some (.slice e)) ∨ C.P.underlying u = some .string) → appendV C st t (ρ x) (ρ y) = some (v, st') →
            ∀ (Kc : Act → World → Prop) (Q : Exit → Act → World → Prop), (∀ g' v' w', Ext st.n g g' → VR g' v v' → GR g' st' w0 base w' → Kc (a.put dst v') w') →
              Oper.wp C.P { dst := dst, op := .call { callee := .builtin .append, args := args, argTypes := argTypes }, type := type, pos := pos, after := after, guard := guard } a w Kc Q := by
          intro hu hap Kc Q hKc
          obtain ⟨v', w', g', h1, h2, h3, h4, h5, h6⟩ := appendV_sound hG hu hap (hρ x) (hρ y) type
          unfold Oper.wp
          simp only [execOp, resolve, e1, e2, Sem.run_bind, Sem.run_pure, Result.andThen_ok, invoke, builtin, h1, Oper.upon]
          exact hKc g' v' w' ⟨h2, h6⟩ h3 h4
        split at h
        · rename_i e hu; exact main (.inl ⟨e, hu⟩) h
        · rename_i hu; exact main (.inr hu) h
        · cases h
      · cases h

/-- Operations that leave what there is as it is. -/
theorem quiet_sound (hC : COk C) (hG : GR g st w0 base w) {f : Fr} {a : Act} (hρ : ∀ x, VR g (evalO C f x) (a.eval x)) (o : Oper) {v : V} {st' : St} (h : quietOp C f st o.op = some (v, st')) :
    ∃ g' v' w', Ext st.n g g' ∧ VR g' v v' ∧ GR g' st' w0 base w' ∧ (execOp a.eval o).run C.P w = .ok (.value v') w' := by
  unfold quietOp at h
  split at h
  · rename_i u hr
    cases h
    obtain ⟨v', h1, h2⟩ := rd_sound hC hG hρ o hr
    exact ⟨g, v', w, Ext.refl _ _, h2, hG, h1⟩
  · split at h
    · rename_i u ob hr
      cases h
      have hn := hG.lim st.n (Nat.le_refl _)
      obtain ⟨v', w', g', h1, h2, h3, h4, h5⟩ := al_sound (C := C) (hG.add ob) hρ o hr (fun x hx => by subst hx; exact ⟨by simp [St.add, hget], by simp [St.add], hn.1, hn.2⟩)
      exact ⟨g', v', w', ⟨h2, fun i hi => h5 i (.inl (by omega))⟩, h3, h4, h1⟩
    · cases h

/-- One operation. -/
theorem runOp_sound (hC : COk C) (hK : KOk C K) (hG : GR g st w0 base w) (hgl : GlobR C g w0 base) {f f' : Fr} {a : Act} (hf : FR g f a) (o : Oper) (hd : ∀ d, o.dst = some d → d < a.tmps.size) {st' : St} (h : runOp C K f st o = some (f', st')) :
    ∀ (Kc : Act → World → Prop) (Q : Exit → Act → World → Prop), (∀ g' a' w', Ext st.n g g' → FR g' f' a' → GR g' st' w0 base w' → a'.tmps.size = a.tmps.size → Kc a' w') → o.wp C.P a w Kc Q := by
  have hρ := hf.eval (C := C) hgl
  unfold runOp at h
  split at h
  · rename_i v st2 hq
    cases h
    obtain ⟨g', v', w', h2, h3, h4, h5⟩ := quiet_sound hC hG hρ o hq
    intro Kc Q hKc
    unfold Oper.wp
    rw [h5, Oper.upon_value]
    exact hKc g' _ w' h2 ((hf.mono h2.le).put hd h3) h4 (size_put _ _ _)
  · split at h
    · rename_i q args ats hop
      split at h
      · rename_i k fi ca hq
        cases h
        intro Kc Q hKc
        have hqr := hρ q
        rw [hq] at hqr
        obtain ⟨fi', ca', hq', h1, h2⟩ := hqr
        unfold Oper.wp
        have : (execOp a.eval o).run C.P w = .ok (.defer { target := .fn (.func k) ca', args := fi' ++ args.map a.eval }) w := by
          simp only [execOp, hop, resolve, hq', Deferred.ofValue, Sem.run_bind, Sem.run_pure, Result.andThen_ok]
        rw [this, Oper.upon_defer]
        refine hKc g _ w (Ext.refl _ _) ?_ hG (size_put _ _ _)
        refine FR.put (f := { f with d := _ :: f.d }) (a := { a with defers := _ :: a.defers }) ⟨hf.t, .cons rfl h2 ?_ hf.d⟩ hd (VR_undef g)
        simp only [Array.toList_append, Array.toList_map]
        exact h1.append (VRl.map hρ _)
      · cases h
    · cases hw : wrOp C K (evalO C f) st o.op with
      | none => rw [hw] at h; cases h
      | some r =>
        obtain ⟨v, st2⟩ := r
        rw [hw] at h; cases h
        exact fun Kc Q hKc => wr_sound hC hK hG hgl o hρ hw Kc Q fun g' v' w' h3 h4 h5 => hKc g' _ w' h3 ((hf.mono h3.le).put hd h4) h5 (size_put _ _ _)

theorem opsOk_dst {ops : Array Oper} {N : Nat} (hall : opsOk N ops = true) {p : Oper} (hp : p ∈ ops.toList) {d : Tmp} (hd : p.dst = some d) : d < N := by
  have := List.all_eq_true.1 hall p hp
  rw [hd] at this
  simpa using this

theorem opsOk_guard {ops : Array Oper} {N : Nat} (hall : opsOk N ops = true) (o : Oper) (i : Nat) (h : ∃ gw, o.guard = some gw ∧ (ops[gw.1]?).bind (·.dst) = some i) : i < N := by
  obtain ⟨gw, _, hb⟩ := h
  cases hp : ops[gw.1]? with
  | none => rw [hp] at hb; cases hb
  | some p =>
    rw [hp, Option.bind_some] at hb
    exact opsOk_dst hall (by rw [← Array.getElem?_toList] at hp; exact List.mem_of_getElem? hp) hb

/-- Operations, one behind the other. -/
theorem runOps_sound (hC : COk C) (hK : KOk C K) (ops : Array Oper) {N : Nat} (hall : opsOk N ops = true) (Q : Exit → Act → World → Prop) : ∀ (l : List Oper), (∀ o ∈ l, o ∈ ops.toList) → ∀ {g : Ghost} {w : World} {st st' : St} {f f' : Fr} {a : Act},
    GR g st w0 base w → GlobR C g w0 base → FR g f a → a.tmps.size = N → runOps C K ops l f st = some (f', st') →
    (∀ g' a' w', Ext st.n g g' → FR g' f' a' → GR g' st' w0 base w' → a'.tmps.size = N → Q .normal a' w') → wpList C.P ops Q l a w
  | [], _, g, w, st, st', f, f', a, hG, hgl, hf, hN, h, hQ => by
    simp only [runOps, Option.some.injEq, Prod.mk.injEq] at h
    obtain ⟨rfl, rfl⟩ := h
    exact hQ g a w (Ext.refl _ _) hf hG hN
  | o :: rest, hmem, g, w, st, st', f, f', a, hG, hgl, hf, hN, h, hQ => by
    have hmem' : ∀ o ∈ rest, o ∈ ops.toList := fun x hx => hmem x (List.mem_cons_of_mem _ hx)
    have hsz : ∀ i, (∃ gw, o.guard = some gw ∧ (ops[gw.1]?).bind (·.dst) = some i) → i < a.tmps.size := fun i hi => by rw [hN]; exact opsOk_guard hall o i hi
    have hd : ∀ d, o.dst = some d → d < a.tmps.size := fun d hd => by rw [hN]; exact opsOk_dst hall (hmem o List.mem_cons_self) hd
    simp only [runOps] at h
    refine wpList_step fun Kc hKc => ?_
    split at h
    · rename_i hw
      split at h
      · rename_i f2 st2 hop
        rw [if_pos (wantedV_sound (fun i _ => hf.t i) hsz hw)]
        exact runOp_sound hC hK hG hgl hf o hd hop Kc Q fun g' a' w' e1 e2 e3 e4 => hKc a' w'
          (runOps_sound hC hK ops hall Q rest hmem' e3 (hgl.mono e1.le) e2 (e4.trans hN) h fun g2 a2 w2 k1 k2 k3 k4 => hQ g2 a2 w2 (e1.trans k1 (runOp_n hK hop)) k2 k3 k4)
      · cases h
    · rename_i hw
      rw [if_neg (by rw [wantedV_sound (fun i _ => hf.t i) hsz hw]; simp)]
      exact hKc _ _ (runOps_sound hC hK ops hall Q rest hmem' hG hgl (hf.put hd (VR_undef g)) ((size_put _ _ _).trans hN) h hQ)
    · cases h
end
end Go.Vm
