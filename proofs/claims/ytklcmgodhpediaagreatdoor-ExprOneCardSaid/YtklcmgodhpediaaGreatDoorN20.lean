/- Steps: what the rules need at each place. -/
import Derived.Test.YtklcmgodhpediaaGreatDoorN19
set_option linter.unusedSimpArgs false
set_option linter.unusedVariables false
namespace Go.Vm
open Go Go.RowKit

section
variable {C : Cfg} {N : Fr → St → Prop} {Q : Ex → Fr → St → Prop} {b : Code} {f : Fr} {st : St} {i : Nat}

theorem NxE (h : Ev C b f st Q) : Nx (fun f' st' => Ev C b f' st' Q) Q .normal f st := h
theorem NxN (h : N f st) : Nx N Q .normal f st := h
theorem NxR (h : Q .ret f st) : Nx N Q .ret f st := h
theorem NxX (h : Q (.exit i) f st) : Nx N Q (.exit i) f st := h
theorem NxG (h : Q (.goto i) f st) : Nx N Q (.goto i) f st := h
theorem BxN (h : Q .normal f st) : Bx i Q .normal f st := h
theorem BxX (h : Q .normal f st) : Bx i Q (.exit i) f st := by simp [Bx]; exact h
theorem BxO {j : Nat} (hj : (j == i) = false) (h : Q (.exit j) f st) : Bx i Q (.exit j) f st := by
  have : j ≠ i := by simpa using hj
  simp [Bx, this]; exact h
theorem BxR (h : Q .ret f st) : Bx i Q .ret f st := h
theorem BxG {l : Nat} (h : Q (.goto l) f st) : Bx i Q (.goto l) f st := h
theorem GxN {M : Nat → Fr → St → Prop} (h : Q .normal f st) : Gx M Q .normal f st := h
theorem GxR {M : Nat → Fr → St → Prop} (h : Q .ret f st) : Gx M Q .ret f st := h
theorem GxX {M : Nat → Fr → St → Prop} (h : Q (.exit i) f st) : Gx M Q (.exit i) f st := h
theorem GxG {M : Nat → Fr → St → Prop} (h : M i f st) : Gx M Q (.goto i) f st := h

theorem condT {c : Operand} {a d : Code} (hc : evalO C f c = .bool true) (h : Ev C a f st Q) : Ev C (.cond c a d) f st Q := Ev.cond hc h
theorem condF {c : Operand} {a d : Code} (hc : evalO C f c = .bool false) (h : Ev C d f st Q) : Ev C (.cond c a d) f st Q := Ev.cond hc h
theorem GxJ {bb rest : Code} {l : Nat} (hf : findLabel bb l = some rest) (h : EvS C bb rest f st Q) : Gx (Jx C bb Q) Q (.goto l) f st := by
  simp only [Gx, Jx, hf]; exact h

theorem LvE {fn : Func} {k : FuncId} {n0 : Nat} {R : V → St → Prop} {vs : List V} {v : V} {st' : St} {e : Ex} (he : e = .ret ∨ e = .normal) (hd : f.d = []) (hr : resultsV C st.H f.t fn.results.toList = some vs) (hl : leaveV C k n0 (packV vs) st = (v, st')) (h : R v st') : Lv C fn k n0 R e f st := by
  rcases he with rfl | rfl
  · exact ⟨hd, vs, hr, by rw [hl]; exact h⟩
  · exact ⟨hd, vs, hr, by rw [hl]; exact h⟩
end

section
variable {C : Cfg} {ops : Array Oper} {f f' : Fr} {st st' : St} {Q : Fr → St → Prop} {o : Oper} {rest : List Oper} {v : V}

theorem evQ (hw : wantedV f ops o = some true) (hq : quietOp C f st o.op = some (v, st')) (hf : f.put o.dst v = f') (h : EvOps C ops rest f' st' Q) : EvOps C ops (o :: rest) f st Q := EvOps.quiet hw hq (hf ▸ h)
theorem evW (hw : wantedV f ops o = some true) (hp : plainWr o.op = true) (hq : wrOp C (callF C 0) (evalO C f) st o.op = some (v, st')) (hf : f.put o.dst v = f') (h : EvOps C ops rest f' st' Q) : EvOps C ops (o :: rest) f st Q := EvOps.wr hw hp hq (hf ▸ h)
theorem evS (hw : wantedV f ops o = some false) (hf : f.put o.dst (.tup []) = f') (h : EvOps C ops rest f' st Q) : EvOps C ops (o :: rest) f st Q := EvOps.skip hw (hf ▸ h)

theorem evF (hf : f = f') (h : EvOps C ops rest f' st Q) : EvOps C ops rest f st Q := hf ▸ h
theorem evC {dst : Option Tmp} {g : Operand} {args : Array Operand} {ats : Array TypeId} {type : TypeId} {pos : String} {after : Array Edge} {guard : Option (Nat × Bool)} {k : FuncId} {fi ca as : List V}
    (hw : wantedV f ops { dst := dst, op := .call { callee := .value g, args := args, argTypes := ats }, type := type, pos := pos, after := after, guard := guard } = some true) (hg : evalO C f g = .func (.func k) fi ca)
    (ha : fi ++ args.toList.map (evalO C f) ++ ca = as) (h : Fn C k as st fun v st' => EvOps C ops rest (f.put dst v) st' Q) :
    EvOps C ops ({ dst := dst, op := .call { callee := .value g, args := args, argTypes := ats }, type := type, pos := pos, after := after, guard := guard } :: rest) f st Q := EvOps.call hw hg (ha ▸ h)
theorem epF {done l : List Nat} (hf : f = f') (h : EvPlan C ops done l f' st Q) : EvPlan C ops done l f st Q := hf ▸ h
theorem epC {done rest : List Nat} {i : Nat} {dst : Option Tmp} {g : Operand} {args : Array Operand} {ats : Array TypeId} {type : TypeId} {pos : String} {after : Array Edge} {guard : Option (Nat × Bool)} {k : FuncId} {fi ca as : List V}
    (ho : ops[i]? = some { dst := dst, op := .call { callee := .value g, args := args, argTypes := ats }, type := type, pos := pos, after := after, guard := guard }) (hh : hoistAt ops i = false)
    (hw : wantedV f ops { dst := dst, op := .call { callee := .value g, args := args, argTypes := ats }, type := type, pos := pos, after := after, guard := guard } = some true) (hg : evalO C f g = .func (.func k) fi ca)
    (ha : fi ++ args.toList.map (evalO C f) ++ ca = as) {l : List Nat} (hl : again ops done i = l)
    (h : Fn C k as st fun v st' => l.all (stillOk C (f.put dst v) st' ops) = true ∧ EvPlan C ops (i :: done) rest (f.put dst v) st' Q) : EvPlan C ops done (i :: rest) f st Q :=
  EvPlan.call ho hh hw hg hl (ha ▸ h)

variable {done rest' : List Nat} {i : Nat} {l : List Nat}
theorem epQ (ho : ops[i]? = some o) (hh : hoistAt ops i = true) (hw : wantedV f ops o = some true) (hq : quietOp C f st o.op = some (v, st')) (hf : f.put o.dst v = f') (h : EvPlan C ops (i :: done) rest' f' st' Q) : EvPlan C ops done (i :: rest') f st Q := EvPlan.quiet ho hh hw hq (hf ▸ h)
theorem epS (ho : ops[i]? = some o) (hw : wantedV f ops o = some false) (hf : f.put o.dst (.tup []) = f') (h : EvPlan C ops (i :: done) rest' f' st Q) : EvPlan C ops done (i :: rest') f st Q := EvPlan.skip ho hw (hf ▸ h)
theorem epW (ho : ops[i]? = some o) (hh : hoistAt ops i = false) (hp : plainWr o.op = true) (hw : wantedV f ops o = some true) (hq : wrOp C (callF C 0) (evalO C f) st o.op = some (v, st')) (hl : again ops done i = l) (hf : f.put o.dst v = f') (hs : l.all (stillOk C f' st' ops) = true)
    (h : EvPlan C ops (i :: done) rest' f' st' Q) : EvPlan C ops done (i :: rest') f st Q := EvPlan.wr ho hh hp hw hq hl (hf ▸ hs) (hf ▸ h)
theorem epL (ho : ops[i]? = some o) (hh : hoistAt ops i = false) (hi : hoist o.op = true) (hw : wantedV f ops o = some true) (hq : quietOp C f st o.op = some (v, st')) (hl : again ops done i = l) (hf : f.put o.dst v = f') (hs : l.all (stillOk C f' st' ops) = true)
    (h : EvPlan C ops (i :: done) rest' f' st' Q) : EvPlan C ops done (i :: rest') f st Q := EvPlan.late ho hh hi hw hq hl (hf ▸ hs) (hf ▸ h)
end

section
variable {C : Cfg} {k : FuncId} {fn : Func} {c : Code} {args : List V} {st : St} {Q : V → St → Prop} {n : Nat} {t0 : List (Nat × V)}
theorem fnP (hf : C.P.funcs[k]? = some fn) (hx : C.X k args st = none) (hp : C.pure k = true) (hb : fn.body = some c) (hn : fn.ntmps = n) (hl : decide (args.length ≤ n) = true) (ha : pureVs (args.map unown) = true) (ht : frame0 n (args.map unown) = t0)
    (h : Ev C c ⟨t0, []⟩ ⟨[], 0⟩ (Lv C fn k 0 fun v _ => pureV v = true ∧ Q v st)) : Fn C k args st Q := by
  subst hn; subst ht
  exact Fn.pure hf hx hp hb hl ha h
theorem fnI (hf : C.P.funcs[k]? = some fn) (hx : C.X k args st = none) (hp : C.pure k = false) (hb : fn.body = some c) (hn : fn.ntmps = n) (hl : decide (args.length ≤ n) = true) (ht : frame0 n args = t0)
    (h : Ev C c ⟨t0, []⟩ st (Lv C fn k st.n Q)) : Fn C k args st Q := by
  subst hn; subst ht
  exact Fn.of hf hx hp hb hl h
end

theorem allC {α : Type} {p : α → Bool} {a : α} {l : List α} (h : p a = true) (k : l.all p = true) : (a :: l).all p = true := by simp only [List.all_cons, h, k, Bool.and_self]
theorem stillOk_rd {C : Cfg} {f : Fr} {st : St} {ops : Array Oper} {i : Nat} {o : Oper} {d : Tmp} {v : V} (ho : ops[i]? = some o) (hw : wantedV f ops o = some true) (hd : o.dst = some d) (hq : rdOp C st.H (evalO C f) o.op = some v) (ht : v = tget f.t d) : stillOk C f st ops i = true := by
  simp only [stillOk, ho, hw, hd, hq]
  rw [ht]
  exact sameV_refl _
theorem rdE {C : Cfg} : (∀ H ρ s d x, rdOp C H ρ (.convert s d x) = convV C H s d (ρ x)) ∧ (∀ H ρ t a, rdOp C H ρ (.load t a) = loadV C H t (ρ a)) ∧ (∀ H ρ t x i ok, rdOp C H ρ (.lookup t x i ok) = lookupV C H t (ρ x) (ρ i) ok) ∧ (∀ H ρ x t, rdOp C H ρ (.call { callee := .builtin .len, args := #[x], argTypes := #[t] }) = lenV C H t (ρ x)) :=
  ⟨fun _ _ _ _ _ => rfl, fun _ _ _ _ => rfl, fun _ _ _ _ _ _ => rfl, fun _ _ _ _ => rfl⟩

/-! Operations, one by one. -/
section
variable {C : Cfg}
theorem quiet_rd {f : Fr} {st : St} {op : Op} (h : alOp C st.n (evalO C f) op = none) : quietOp C f st op = (rdOp C st.H (evalO C f) op).map fun v => (v, st) := by
  unfold quietOp
  cases rdOp C st.H (evalO C f) op with
  | some v => rfl
  | none => rw [h]; rfl

theorem opE :
    (∀ f st x, quietOp C f st (.move x) = some (evalO C f x, st)) ∧
    (∀ f st x, quietOp C f st (.assign x) = some (evalO C f x, st)) ∧
    (∀ f st c a b, quietOp C f st (.pick c a b) = (match evalO C f c with | .bool t => some ((if t then evalO C f a else evalO C f b), st) | _ => none)) ∧
    (∀ f st t parts, quietOp C f st (.build t parts) = (buildV C t (parts.toList.map fun p => (p.1, evalO C f p.2))).map fun v => (v, st)) ∧
    (∀ f st t a, quietOp C f st (.load t a) = (loadV C st.H t (evalO C f a)).map fun v => (v, st)) ∧
    (∀ f st x, quietOp C f st (.nilCheck x) = (nilCheckV (evalO C f x)).map fun v => (v, st)) ∧
    (∀ f st op t x y u, quietOp C f st (.binOp op t x y u) = (binV C (isNilWord x || isNilWord y) op t (evalO C f x) (evalO C f y)).map fun v => (v, st)) ∧
    (∀ f st op t x, quietOp C f st (.unOp op t x) = (unV op (evalO C f x)).map fun v => (v, st)) ∧
    (∀ f st t x, quietOp C f st (.makeInterface t x) = (makeIfaceV C t (evalO C f x)).map fun v => (v, st)) ∧
    (∀ f st fn first captured, quietOp C f st (.makeFunc fn first captured) = some (.func fn (first.toList.map (evalO C f)) (captured.toList.map (evalO C f)), st)) ∧
    (∀ f st t x lo hi, quietOp C f st (.slice t x lo hi none) = (sliceV C t (evalO C f x) (lo.map (evalO C f)) (hi.map (evalO C f))).map fun v => (v, st)) ∧
    (∀ f st t x i, quietOp C f st (.fieldAddr t x i) = (fieldAddrV C t (evalO C f x) i).map fun v => (v, st)) ∧
    (∀ f st t x i, quietOp C f st (.field t x i) = (fieldV C t (evalO C f x) i).map fun v => (v, st)) ∧
    (∀ f st t x i, quietOp C f st (.indexAddr t x i) = (indexAddrV C t (evalO C f x) (evalO C f i)).map fun v => (v, st)) ∧
    (∀ f st t x i, quietOp C f st (.index t x i) = (indexV C t (evalO C f x) (evalO C f i)).map fun v => (v, st)) ∧
    (∀ f st t x i ok, quietOp C f st (.lookup t x i ok) = (lookupV C st.H t (evalO C f x) (evalO C f i) ok).map fun v => (v, st)) ∧
    (∀ f st x i, quietOp C f st (.extract x i) = (match evalO C f x with | .tup vs => (vs[i]?).map fun v => (v, st) | _ => none)) ∧
    (∀ f st x t, quietOp C f st (.call { callee := .builtin .len, args := #[x], argTypes := #[t] }) = (lenV C st.H t (evalO C f x)).map fun v => (v, st)) ∧
    (∀ f st s d x, quietOp C f st (.convert s d x) = (match convV C st.H s d (evalO C f x) with
      | some v => some (v, st)
      | none => (alOp C st.n (evalO C f) (.convert s d x)).map fun p => (p.1, st.add p.2))) ∧
    (∀ f st t, quietOp C f st (.alloc t) = ((zeroV C t).bind fun z => (cellsOf z).map fun cs => (.ptr st.n 0, st.add (some (.cells cs))))) ∧
    (∀ f st t x, quietOp C f st (.box t x) = ((cellsOf (evalO C f x)).map fun cs => (.ptr st.n 0, st.add (some (.cells cs))))) ∧
    (∀ f st t len parts, quietOp C f st (.buildSlice t len parts) = (buildSliceV C t len (parts.toList.map fun p => (p.1, evalO C f p.2))).map fun v => (v, st)) ∧
    (∀ f st t, quietOp C f st (.makeMap t none) = some (.map st.n, st.add (some (.map [])))) ∧
    (∀ f st t l c, quietOp C f st (.makeSlice t l c) = (alOp C st.n (evalO C f) (.makeSlice t l c)).map fun p => (p.1, st.add p.2)) := by
  refine ⟨?_, ?_, ?_, ?_, ?_, ?_, ?_, ?_, ?_, ?_, ?_, ?_, ?_, ?_, ?_, ?_, ?_, ?_, ?_, ?_, ?_, ?_, ?_, ?_⟩ <;> intros
  all_goals first
    | rfl
    | exact quiet_rd rfl
    | skip
  · rename_i f st c a b
    rw [quiet_rd rfl]; simp only [rdOp]; cases evalO C f c <;> rfl
  · rename_i f st x i
    rw [quiet_rd rfl]; simp only [rdOp]; cases evalO C f x <;> rfl
  · rename_i f st s d x
    unfold quietOp; simp only [rdOp]
    cases convV C st.H s d (evalO C f x) with
    | some v => rfl
    | none => simp only []; cases alOp C st.n (evalO C f) (.convert s d x) <;> rfl
  · rename_i f st t
    unfold quietOp; simp only [rdOp, alOp]
    cases zeroV C t with
    | none => rfl
    | some z => simp only [Option.bind_some]; cases cellsOf z <;> rfl
  · rename_i f st t x
    unfold quietOp; simp only [rdOp, alOp]
    cases cellsOf (evalO C f x) <;> rfl
  · rename_i f st t len parts
    unfold quietOp; simp only [rdOp, alOp]
    cases buildSliceV C t len _ <;> rfl
  · rename_i f st t l c
    unfold quietOp; simp only [rdOp]
    cases alOp C st.n (evalO C f) (.makeSlice t l c) <;> rfl

theorem evE :
    (∀ f t, evalO C f (.tmp t) = tget f.t t) ∧
    (∀ f k n, evalO C f (.const (.int k n)) = .int k n) ∧ (∀ f b, evalO C f (.const (.bool b)) = .bool b) ∧ (∀ f s, evalO C f (.const (.string s)) = .str s.data.toList) ∧
    (∀ f, evalO C f (.const (.pointer none)) = .nilptr) ∧ (∀ f, evalO C f (.const (.slice none 0 0)) = .sl .full []) ∧ (∀ f, evalO C f (.const (.map none)) = .nilmap) ∧ (∀ f, evalO C f (.const .nilFunc) = .nilfunc) ∧ (∀ f, evalO C f (.const .nilIface) = .niliface) ∧
    (∀ f cs, evalO C f (.const (.agg cs)) = ofVal (.agg cs)) ∧ (∀ f k, evalO C f (.func k) = .func (.func k) [] []) ∧ (∀ f i, evalO C f (.global i) = C.glob i) :=
  ⟨fun _ _ => rfl, fun _ _ _ => rfl, fun _ _ => rfl, fun _ _ => rfl, fun _ => rfl, fun _ => rfl, fun _ => rfl, fun _ => rfl, fun _ => rfl, fun _ _ => rfl, fun _ _ => rfl, fun _ _ => rfl⟩

theorem binE : (∀ n op t k k' a b, binV C n op t (.int k a) (.int k' b) = (match op with
      | .shl | .shr => shiftBin op k a b
      | _ => if k = k' then intBin op k a b else none)) ∧
    (∀ n op t a b, binV C n op t (.str a) (.str b) = strBin op a b) ∧
    (∀ n t a b, binV C n .eql t (.agg a) (.agg b) = (eqT C 9 t (.agg a) (.agg b)).map fun r => .bool r) ∧
    (∀ n t a b, binV C n .neq t (.agg a) (.agg b) = (eqT C 9 t (.agg a) (.agg b)).map fun r => .bool (!r)) ∧
    (∀ n t a b, binV C n .eql t (.bool a) (.bool b) = (eqT C 9 t (.bool a) (.bool b)).map fun r => .bool r) ∧
    (∀ n t a b, binV C n .neq t (.bool a) (.bool b) = (eqT C 9 t (.bool a) (.bool b)).map fun r => .bool (!r)) :=
  ⟨fun _ _ _ _ _ _ _ => rfl, fun _ _ _ _ _ => rfl, fun _ _ _ _ => rfl, fun _ _ _ _ => rfl, fun _ _ _ _ => rfl, fun _ _ _ _ => rfl⟩

theorem ldE : (∀ H t cs, loadV C H t (.cptr cs) = partV C t cs 0) ∧ (∀ H t b off, loadV C H t (.ptr b off) = (match hget H b with | some (.cells cs) => partV C t cs off | _ => none)) := ⟨fun _ _ _ => rfl, fun _ _ _ _ => rfl⟩
end

theorem stE : (∀ (st : St) ob, st.add (some ob) = ⟨(st.n, ob) :: st.H, st.n + 1⟩) ∧ (∀ st : St, st.add none = st) := ⟨fun _ _ => rfl, fun _ => rfl⟩
theorem tgE : (∀ i (v : V) r, tget ((i, v) :: r) i = v) ∧ (∀ i (v : V) r j, tget ((i, v) :: r) j = if (i == j) = true then v else tget r j) := ⟨fun i v r => by simp [tget], fun _ _ _ _ => rfl⟩
theorem tsE : (∀ i (v x : V) r d, tset ((i, v) :: r) d x = if (i == d) = true then (i, x) :: r else (i, v) :: tset r d x) ∧ (∀ f d v, Fr.put f (some d) v = ⟨tset f.t d v, f.d⟩) ∧ (∀ f v, Fr.put f none v = f) := ⟨fun _ _ _ _ _ => rfl, fun _ _ _ => rfl, fun _ _ => rfl⟩
theorem hgE : (∀ b, hget [] b = none) ∧ (∀ i o r b, hget ((i, o) :: r) b = if (i == b) = true then some o else hget r b) := ⟨fun _ => rfl, fun _ _ _ _ => rfl⟩

theorem clE : (∀ cs, cellsOf (.agg cs) = some cs) ∧ (∀ b, cellsOf (.bool b) = some [.bool b]) ∧ (∀ k n, cellsOf (.int k n) = some [.int k n]) ∧ (∀ s, cellsOf (.str s) = some [.str s]) ∧ (∀ b o, cellsOf (.ptr b o) = some [.ptr b o]) ∧ (∀ cs, cellsOf (.cptr cs) = some [.cptr cs]) ∧ cellsOf .nilptr = some [.nilptr] ∧
    (∀ t xs, cellsOf (.sl t xs) = some [.sl t xs]) ∧ (∀ a b c d, cellsOf (.msl a b c d) = some [.msl a b c d]) ∧ (∀ b, cellsOf (.map b) = some [.map b]) ∧ cellsOf .nilmap = some [.nilmap] ∧ (∀ a b c, cellsOf (.func a b c) = some [.func a b c]) ∧ cellsOf .nilfunc = some [.nilfunc] ∧ (∀ t x, cellsOf (.iface t x) = some [.iface t x]) ∧ cellsOf .niliface = some [.niliface] :=
  ⟨fun _ => rfl, fun _ => rfl, fun _ _ => rfl, fun _ => rfl, fun _ _ => rfl, fun _ => rfl, rfl, fun _ _ => rfl, fun _ _ _ _ => rfl, fun _ => rfl, rfl, fun _ _ _ => rfl, rfl, fun _ _ => rfl, rfl⟩
theorem ncE : (∀ cs, ncells (.agg cs) = cs.length) ∧ (∀ b, ncells (.bool b) = 1) ∧ (∀ k n, ncells (.int k n) = 1) ∧ (∀ s, ncells (.str s) = 1) ∧ (∀ b o, ncells (.ptr b o) = 1) ∧ (∀ cs, ncells (.cptr cs) = 1) ∧ ncells .nilptr = 1 ∧ (∀ t xs, ncells (.sl t xs) = 1) ∧ (∀ t x, ncells (.iface t x) = 1) ∧ ncells .niliface = 1 :=
  ⟨fun _ => rfl, fun _ => rfl, fun _ _ => rfl, fun _ => rfl, fun _ _ => rfl, fun _ => rfl, rfl, fun _ _ => rfl, fun _ _ => rfl, rfl⟩
theorem szE : (∀ s, szOk s [] = true) ∧ (∀ s x xs, szOk s (x :: xs) = (ncells x == s)) ∧ (∀ l, szOk 1 (ofBytes l) = true) := ⟨fun _ => rfl, fun _ _ _ => rfl, fun l => by cases l <;> rfl⟩

/-! Equations. -/
theorem ofBytes_length (l : List UInt8) : (ofBytes l).length = l.length := by simp [ofBytes]
theorem ofBytes_get (l : List UInt8) (i : Nat) : (ofBytes l)[i]? = (l[i]?).map fun b => V.int .u8 b.toNat := by simp [ofBytes]
theorem ofBytes_take (l : List UInt8) (i : Nat) : (ofBytes l).take i = ofBytes (l.take i) := by simp [ofBytes]
theorem ofBytes_drop (l : List UInt8) (i : Nat) : (ofBytes l).drop i = ofBytes (l.drop i) := by simp [ofBytes]
theorem ofBytes_append (a b : List UInt8) : ofBytes a ++ ofBytes b = ofBytes (a ++ b) := by simp [ofBytes]
theorem ofBytes_szOk (l : List UInt8) : szOk 1 (ofBytes l) = true := by cases l <;> rfl
theorem toBytes_ofBytes : ∀ l : List UInt8, toBytes (ofBytes l) = some l
  | [] => rfl
  | b :: l => by
    show (toBytes (ofBytes l)).map _ = _
    rw [toBytes_ofBytes l]
    simp
theorem pureVs_ofBytes : ∀ l : List UInt8, pureVs (ofBytes l) = true
  | [] => rfl
  | b :: l => by
    show (pureV _ && pureVs (ofBytes l)) = true
    rw [pureVs_ofBytes l]; rfl
theorem map_stripAgg_ofBytes (l : List UInt8) : (ofBytes l).map stripAgg = ofBytes l := by simp [ofBytes, stripAgg, stripCell]
end Go.Vm
