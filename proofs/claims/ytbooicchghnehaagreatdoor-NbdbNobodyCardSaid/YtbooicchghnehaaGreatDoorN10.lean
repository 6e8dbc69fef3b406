/- The evaluator: regions, code, calls. -/
import Derived.Test.YtbooicchghnehaaGreatDoorN1
import Derived.Orders
import Derived.Test.YtbooicchghnehaaGreatDoorN9
set_option linter.unusedVariables false
namespace Go.Vm
open Go

mutual
/-- The same value? -/
def sameV : V → V → Bool
  | .any, .any => true
  | .bool a, .bool b => a == b
  | .int k a, .int k' b => decide (k = k') && a == b
  | .str a, .str b => a == b
  | .ptr a b, .ptr c d => a == c && b == d
  | .cptr a, .cptr b => sameVs a b
  | .nilptr, .nilptr => true
  | .sl t a, .sl u b => decide (t = u) && sameVs a b
  | .msl a b c x, .msl d e f y => a == d && b == e && c == f && x == y
  | .map a, .map b => a == b
  | .nilmap, .nilmap => true
  | .func f a b, .func g c d => decide (f = g) && sameVs a c && sameVs b d
  | .nilfunc, .nilfunc => true
  | .yield a, .yield b => a == b
  | .iface t a, .iface u b => t == u && sameV a b
  | .niliface, .niliface => true
  | .agg a, .agg b => sameVs a b
  | .tup a, .tup b => sameVs a b
  | _, _ => false
def sameVs : List V → List V → Bool
  | [], [] => true
  | a :: as, b :: bs => sameV a b && sameVs as bs
  | _, _ => false
end

mutual
theorem sameV_eq : ∀ {a b : V}, sameV a b = true → a = b
  | .any, b, h => by cases b <;> simp_all [sameV]
  | .bool a, b, h => by cases b <;> simp_all [sameV]
  | .int k a, b, h => by cases b <;> simp_all [sameV]
  | .str a, b, h => by cases b <;> simp_all [sameV]
  | .ptr a c, b, h => by cases b <;> simp_all [sameV]
  | .cptr a, b, h => by cases b <;> simp [sameV] at h; rw [sameVs_eq h]
  | .nilptr, b, h => by cases b <;> simp_all [sameV]
  | .sl t a, b, h => by cases b <;> simp [sameV] at h; rw [h.1, sameVs_eq h.2]
  | .msl a c d x, b, h => by cases b <;> simp_all [sameV]
  | .map a, b, h => by cases b <;> simp_all [sameV]
  | .nilmap, b, h => by cases b <;> simp_all [sameV]
  | .func f a c, b, h => by cases b <;> simp [sameV] at h; rw [h.1.1, sameVs_eq h.1.2, sameVs_eq h.2]
  | .nilfunc, b, h => by cases b <;> simp_all [sameV]
  | .yield a, b, h => by cases b <;> simp_all [sameV]
  | .iface t a, b, h => by cases b <;> simp [sameV] at h; rw [h.1, sameV_eq h.2]
  | .niliface, b, h => by cases b <;> simp_all [sameV]
  | .agg a, b, h => by cases b <;> simp [sameV] at h; rw [sameVs_eq h]
  | .tup a, b, h => by cases b <;> simp [sameV] at h; rw [sameVs_eq h]
theorem sameVs_eq : ∀ {a b : List V}, sameVs a b = true → a = b
  | [], b, h => by cases b <;> simp_all [sameVs]
  | a :: as, b, h => by
    cases b with
    | nil => simp [sameVs] at h
    | cons b bs => simp only [sameVs, Bool.and_eq_true] at h; rw [sameV_eq h.1, sameVs_eq h.2]
end

def sameOb : Ob → Ob → Bool
  | .cells a, .cells b => sameVs a b
  | .map [], .map [] => true
  | .tip a, .tip b => a == b
  | _, _ => false

theorem sameOb_eq {a b : Ob} (h : sameOb a b = true) : a = b := by
  unfold sameOb at h
  split at h
  · rw [sameVs_eq h]
  · rfl
  · simp at h; rw [h]
  · cases h

/-! ### Regions whose order is open -/
/-- Operations that change no memory. -/
def hoist : Op → Bool
  | .move _ | .assign _ | .pick .. | .build .. | .load .. | .nilCheck _ | .binOp .. | .unOp .. | .convert .. | .makeInterface .. | .makeFunc .. | .slice _ _ _ _ .none | .fieldAddr .. | .field .. | .indexAddr .. | .index ..
  | .lookup .. | .extract .. | .alloc _ | .box .. | .buildSlice .. | .makeMap _ .none | .makeSlice .. => true
  | .call { callee := .builtin .len, .. } => true
  | _ => false

/-- Operations whose answers hang on memory that may change, or that give a name to new memory. -/
def heapDep : Op → Bool
  | .load .. | .lookup .. | .convert .. | .alloc _ | .box .. | .makeMap .. | .makeSlice .. => true
  | .call { callee := .builtin .len, .. } => true
  | _ => false

/-- Other operations that may stand in such a region. -/
def mayWrite : Op → Bool
  | .store .. | .mapUpdate .. | .insert .. | .call _ => true
  | _ => false

/-- Does operation j wait for operation i? -/
def waits (ops : Array Oper) (j i : Nat) : Bool :=
  match ops[j]? with
  | .some o => o.after.toList.any fun e => Region.binds .any e && e.on == i
  | .none => false

/-- The operations that operation j waits for, at once. -/
def predsL (ops : Array Oper) (j : Nat) : List Nat :=
  match ops[j]? with
  | .some o => (o.after.toList.filter fun e => Region.binds .any e).map (·.on)
  | .none => []
def closeP (ops : Array Oper) : Nat → List Nat → List Nat
  | 0, S => S
  | m + 1, S => closeP ops m (if S.contains m then predsL ops m ++ S else S)
/-- All operations that operation i waits for. -/
def beforeL (ops : Array Oper) (i : Nat) : List Nat := closeP ops ops.size (predsL ops i)

def readyAt (ops : Array Oper) (done : List Nat) (i : Nat) : Bool :=
  match ops[i]? with
  | .some o => !done.contains i && o.after.toList.all fun e => !Region.binds .any e || done.contains e.on
  | .none => false

def dstIs (ops : Array Oper) (i : Nat) (t : Tmp) : Bool :=
  match ops[i]? with
  | .some o => o.dst == .some t
  | .none => false
def looksB (ops : Array Oper) (i : Nat) (t : Tmp) : Bool :=
  match ops[i]? with
  | .some o => (o.looksAt ops).contains t
  | .none => false

/-- Does an operation write a temporary that another one reads, who does not wait for it? -/
def lateAt (ops : Array Oper) (i : Nat) : Bool :=
  match (ops[i]?).bind (·.dst) with
  | .some t => (List.range ops.size).any fun j => looksB ops j t && !waits ops j i
  | .none => false

/-- Operations that may be done as early as they can. -/
def hoistAt (ops : Array Oper) (i : Nat) : Bool :=
  match ops[i]? with
  | .some o => hoist o.op && !lateAt ops i
  | .none => false

/-- An order: what changes no memory as early as it may. -/
def planGo (ops : Array Oper) : Nat → List Nat → List Nat
  | 0, _ => []
  | k + 1, done =>
    match (List.range ops.size).filter (readyAt ops done) with
    | [] => []
    | r :: rs =>
      let i := ((r :: rs).find? (hoistAt ops)).getD r
      i :: planGo ops k (i :: done)
def plan (ops : Array Oper) : List Nat := planGo ops ops.size []

/-- Operation d (that changes no memory) beside operation j. -/
def pairOk (ops : Array Oper) (d j : Nat) : Bool :=
  match (ops[d]?).bind (·.dst) with
  | .some t =>
    (!looksB ops j t || (j != d && waits ops j d)) && (j == d || !dstIs ops j t || (!hoistAt ops j && waits ops j d))
  | .none => true
def pairOk2 (ops : Array Oper) (d j : Nat) : Bool :=
  match (ops[j]?).bind (·.dst) with
  | .some t => !looksB ops d t || hoistAt ops j || waits ops d j || waits ops j d
  | .none => true

/-- May an order be taken for all orders? -/
def planOk (ops : Array Oper) : List Nat → List Nat → Bool
  | done, [] => (List.range ops.size).all done.contains
  | done, i :: rest =>
    readyAt ops done i && decide (i < ops.size) &&
    (if hoistAt ops i then (List.range ops.size).all fun j => pairOk ops i j && pairOk2 ops i j
     else (match ops[i]? with | .some o => hoist o.op || mayWrite o.op | .none => false) && rest.all fun j => match ops[j]? with
        | .some o => o.after.toList.any fun e => Region.binds .any e && !done.contains e.on
        | .none => false) &&
    planOk ops (i :: done) rest

variable (C : Cfg)

/-- Is what an operation yielded still so? -/
def stillOk (f : Fr) (st : St) (ops : Array Oper) (i : Nat) : Bool :=
  match ops[i]? with
  | .none => false
  | .some o =>
    match wantedV f ops o, o.dst with
    | .some true, .some d =>
      match rdOp C st.H (evalO C f) o.op with
      | .some v => sameV v (tget f.t d)
      | .none =>
        match tget f.t d with
        | .ptr n 0 | .map n | .msl n 0 _ _ | .sl (.own n) _ =>
          match alOp C n (evalO C f) o.op with
          | .some (v, .some ob) =>
            sameV v (tget f.t d) && match hget st.H n with
              | .some ob' => sameOb ob ob'
              | .none => false
          | _ => false
        | _ => false
    | .some false, _ => true
    | _, _ => false

/-- Operations in an order; behind one that may change memory, what others ahead yielded that do not have to be done before it is to be so still. -/
def runPlan (K : FuncId → List V → St → Option (V × St)) (ops : Array Oper) : List Nat → List Nat → Fr → St → Option (Fr × St)
  | _, [], f, st => .some (f, st)
  | done, i :: rest, f, st =>
    match ops[i]? with
    | .none => .none
    | .some o =>
      match wantedV f ops o with
      | .some false => runPlan K ops (i :: done) rest (f.put o.dst (.tup [])) st
      | .none => .none
      | .some true =>
        if hoistAt ops i then
          match quietOp C f st o.op with
          | .some (v, st') => runPlan K ops (i :: done) rest (f.put o.dst v) st'
          | .none => .none
        else
          match (if hoist o.op then quietOp C f st o.op else wrOp C K (evalO C f) st o.op) with
          | .some (v, st') =>
            if (done.filter fun d => !(beforeL ops i).contains d && hoistAt ops d && (match ops[d]? with | .some p => heapDep p.op | .none => false)).all (stillOk C (f.put o.dst v) st' ops) = true
            then runPlan K ops (i :: done) rest (f.put o.dst v) st' else .none
          | .none => .none

/-- A type of rows of bytes. -/
def bytesT (t : TypeId) : Bool :=
  match C.P.underlying t with
  | .some (.slice e) => isU8 C e
  | _ => false

/-- Bytes of a constant text: a row, and its conversion to its own type. -/
def pairV (f : Fr) : List Oper → Option (Fr × List Oper)
  | o :: o2 :: rest =>
    match o.op, o2.op, o.dst, o2.dst, o.guard, o2.guard with
    | .buildSlice t len parts, .convert s s2 (.tmp x), .some d, .some d2, .none, .none =>
      if x = d ∧ s = t ∧ s2 = t ∧ bytesT C t = true then
        (buildSliceV C t len (parts.toList.map fun (i, x) => (i, evalO C f x))).map fun v => ((f.put (.some d) v).put (.some d2) v, rest)
      else .none
    | _, _, _, _, _, _ => .none
  | _ => .none

def runRegion (K : FuncId → List V → St → Option (V × St)) (ops : Array Oper) (draw : Bool) (f : Fr) (st : St) : Option (Fr × St) :=
  if draw then
    if planOk ops [] (plan ops) = true then runPlan C K ops [] (plan ops) f st else .none
  else
    match pairV C f ops.toList with
    | .some (f', rest) => runOps C K ops rest f' st
    | .none => runOps C K ops ops.toList f st

/-! ### Code -/
inductive Ex where
  | normal
  | ret
  | exit (id : Nat)
  | goto (l : Nat)
  deriving DecidableEq

mutual
def exec (K : FuncId → List V → St → Option (V × St)) : Nat → Code → Fr → St → Option (Ex × Fr × St)
  | 0, _, _, _ => .none
  | n + 1, c, f, st =>
    match c with
    | .skip | .label _ => .some (.normal, f, st)
    | .ret => .some (.ret, f, st)
    | .exit id => .some (.exit id, f, st)
    | .goto l => .some (.goto l, f, st)
    | .region _ ops draw => (runRegion C K ops draw f st).map fun (f', st') => (.normal, f', st')
    | .seq a b =>
      match exec K n a f st with
      | .some (.normal, f', st') => exec K n b f' st'
      | r => r
    | .cond c a b =>
      match evalO C f c with
      | .bool t => exec K n (if t then a else b) f st
      | _ => .none
    | .block id b =>
      match exec K n b f st with
      | .some (.exit id', f', st') => .some (if id' = id then .normal else .exit id', f', st')
      | r => r
    | .loop b =>
      match exec K n b f st with
      | .some (.normal, f', st') => exec K n (.loop b) f' st'
      | r => r
    | .scope b => inScope K n b b f st
    | _ => .none
def inScope (K : FuncId → List V → St → Option (V × St)) : Nat → Code → Code → Fr → St → Option (Ex × Fr × St)
  | 0, _, _, _, _ => .none
  | n + 1, body, c, f, st =>
    match exec K n c f st with
    | .some (.goto l, f', st') =>
      match findLabel body l with
      | .some rest => inScope K n body rest f' st'
      | .none => .some (.goto l, f', st')
    | r => r
end

/-! ### Calls -/
def initT : Nat → List V → List (Nat × V)
  | _, [] => []
  | i, v :: vs => (i, v) :: initT (i + 1) vs

def resultsV (H : List (Nat × Ob)) (t : List (Nat × V)) : List ResultVar → Option (List V)
  | [] => .some []
  | .tmp x :: r => (resultsV H t r).map (tget t x :: ·)
  | .cell a ty :: r =>
    match loadV C H ty (tget t a) with
    | .some v => (resultsV H t r).map (v :: ·)
    | .none => .none

/-- Elements of so many cells each. -/
def chunks (S : Nat) : Nat → List V → List V
  | 0, _ => []
  | n + 1, cs => .agg (cs.take S) :: chunks S n (cs.drop S)
/-- How many cells an element has, if the room says it. -/
def sizeC (cap : Nat) : Nat := if unk + 1 < cap then cap - (unk + 1) else 1
/-- A value whose memory from a name on never changes any more. -/
def frz (n0 : Nat) (H : List (Nat × Ob)) : Nat → V → V
  | 0, v => v
  | k + 1, v =>
    match v with
    | .ptr b off => if n0 ≤ b then (match hget H b with | .some (.cells cs) => .cptr ((cs.drop off).map (frz n0 H k)) | _ => .ptr b off) else .ptr b off
    | .msl b off len cap => if n0 ≤ b then (match hget H b with
        | .some (.cells cs) => if sizeC cap ≤ 1 then (if off + len ≤ cs.length then .sl (if cap = len ∧ cap < unk then .full else .none) (((cs.drop off).take len).map (frz n0 H k)) else .msl b off len cap)
            else if off + len * sizeC cap ≤ cs.length then .sl .none ((chunks (sizeC cap) len (cs.drop off)).map (frz n0 H k)) else .msl b off len cap
        | _ => .msl b off len cap) else .msl b off len cap
    | .cptr cs => .cptr (cs.map (frz n0 H k))
    | .sl tip xs => .sl tip (xs.map (frz n0 H k))
    | .func fn fi ca => .func fn (fi.map (frz n0 H k)) (ca.map (frz n0 H k))
    | .iface t x => .iface t (frz n0 H k x)
    | .agg cs => .agg (cs.map (frz n0 H k))
    | .tup cs => .tup (cs.map (frz n0 H k))
    | v => v

def packV : List V → V
  | [v] => v
  | vs => .tup vs

/-- The answer, as the caller has it. -/
def leaveV (f : FuncId) (n0 : Nat) (v : V) (st : St) : V × St :=
  let v := if C.grow f then v else strip v
  if C.keep f then (v, st) else
    let v := if C.frz f then frz n0 st.H st.n v else v
    let H := hdrop n0 st.H
    match v with
    | .sl (.own t) xs =>
      match hget st.H t with
      | .some (.tip sz) => (.sl (.own t) xs, ⟨if n0 ≤ t then (t, .tip sz) :: H else H, st.n⟩)
      | _ => (v, ⟨H, st.n⟩)
    | _ => (v, ⟨H, st.n⟩)

mutual
/-- A value that names no memory of the evaluator's. -/
def pureV : V → Bool
  | .any | .bool _ | .int _ _ | .str _ | .nilptr | .nilmap | .nilfunc | .niliface => true
  | .cptr cs | .agg cs | .tup cs => pureVs cs
  | .sl (.own _) _ => false
  | .sl _ xs => pureVs xs
  | .func _ fi ca => pureVs fi && pureVs ca
  | .iface _ x => pureV x
  | .ptr _ _ | .msl _ _ _ _ | .map _ | .yield _ => false
def pureVs : List V → Bool
  | [] => true
  | v :: vs => pureV v && pureVs vs
end

/-- Forget whose end a slice is. -/
def unownCell : V → V
  | .sl (.own _) xs => .sl .none xs
  | v => v
def unown : V → V
  | .agg cs => .agg (cs.map unownCell)
  | v => unownCell v

/-- The frame at the start. -/
def frame0 (n : Nat) (args : List V) : List (Nat × V) := initT 0 (args ++ List.replicate (n - args.length) .any)

def callF : Nat → FuncId → List V → St → Option (V × St)
  | 0, _, _, _ => .none
  | n + 1, k, args, st =>
    match C.X k args st with
    | .some r => .some r
    | .none =>
      match C.P.funcs[k]? with
      | .none => .none
      | .some fn =>
        match fn.body with
        | .none => .none
        | .some c =>
          if args.length ≤ fn.ntmps then
            if C.pure k = true then
              if pureVs (args.map unown) = true then
                match exec C (callF n) n c ⟨frame0 fn.ntmps (args.map unown), []⟩ ⟨[], 0⟩ with
                | .some (e, f', st') =>
                  if (e = .normal ∨ e = .ret) ∧ f'.d.isEmpty = true then
                    match resultsV C st'.H f'.t fn.results.toList with
                    | .some vs =>
                      let v := (leaveV C k 0 (packV vs) st').1
                      if pureV v = true then .some (v, st) else .none
                    | .none => .none
                  else .none
                | .none => .none
              else .none
            else
            match exec C (callF n) n c ⟨frame0 fn.ntmps args, []⟩ st with
            | .some (e, f', st') =>
              if (e = .normal ∨ e = .ret) ∧ f'.d.isEmpty = true then
                match resultsV C st'.H f'.t fn.results.toList with
                | .some vs => .some (leaveV C k st.n (packV vs) st')
                | .none => .none
              else .none
            | .none => .none
          else .none
end Go.Vm
/- What the evaluator answers, the model answers: operations in the text's order. -/
set_option linter.unusedSimpArgs false
namespace Go.Vm
open Go Go.RowKit

/-- A ghost that says more, and nothing new of the names below n. -/
structure Ext (n : Nat) (g g' : Ghost) : Prop where
  le : g.le g'
  old : ∀ i, i < n → g'.κ i = g.κ i ∧ g'.θ i = g.θ i

theorem Ext.refl (n : Nat) (g : Ghost) : Ext n g g := ⟨Ghost.le.refl g, fun _ _ => ⟨rfl, rfl⟩⟩
theorem Ext.trans {n m : Nat} {a b c : Ghost} (h : Ext n a b) (k : Ext m b c) (hn : n ≤ m) : Ext n a c :=
  ⟨h.le.trans k.le, fun i hi => ⟨((k.old i (by omega)).1).trans (h.old i hi).1, ((k.old i (by omega)).2).trans (h.old i hi).2⟩⟩
theorem Ext.mono {n m : Nat} {a b : Ghost} (h : Ext m a b) (hn : n ≤ m) : Ext n a b := ⟨h.le, fun i hi => h.old i (by omega)⟩

/-- Package-level variables are what the evaluator is told. -/
structure GlobR (C : Cfg) (g : Ghost) (w0 : W0) (base : Nat) : Prop where
  vr : ∀ i, VR g (C.glob i) (.pointer (some ⟨i, 0, none⟩))
  inv : C.I w0.w
  lo : C.lo ≤ base
theorem GlobR.mono {C : Cfg} {g g' : Ghost} {w0 : W0} {base : Nat} (h : g.le g') (k : GlobR C g w0 base) : GlobR C g' w0 base := ⟨fun i => (k.vr i).mono h, k.inv, k.lo⟩

/-- **A call answers v and leaves st'.** -/
def AC (C : Cfg) (k : FuncId) (args : List V) (st : St) (v : V) (st' : St) : Prop :=
  st.n ≤ st'.n ∧ (∃ fn, C.P.funcs[k]? = some fn ∧ fn.body.isSome = true) ∧
  ∀ (g : Ghost) (w0 : W0) (base : Nat) (w : World) (args' : Array Value), GR g st w0 base w → GlobR C g w0 base → VRl g args args'.toList →
    Calls C.P k args' w fun e w' => ∃ v' g', e = .returned v' ∧ Ext st.n g g' ∧ VR g' v v' ∧ GR g' st' w0 base w'

def KOk (C : Cfg) (K : FuncId → List V → St → Option (V × St)) : Prop := ∀ k args st v st', K k args st = some (v, st') → AC C k args st v st'

/-! ### Frames -/
theorem tget_tset : ∀ (l : List (Nat × V)) (d t : Nat) (v : V), tget (tset l d v) t = if t = d then v else tget l t
  | [], d, t, v => by
    simp only [tset, tget]
    by_cases h : d = t
    · subst h; simp
    · simp [h, Ne.symm h]
  | (i, u) :: r, d, t, v => by
    simp only [tset]
    by_cases hi : i = d
    · subst hi
      simp only [beq_self_eq_true, if_true, tget]
      by_cases h : i = t
      · subst h; simp
      · simp [h, Ne.symm h]
    · have hi' : (i == d) = false := by simp [hi]
      simp only [hi', Bool.false_eq_true, if_false, tget]
      by_cases h : i = t
      · subst h; simp [hi]
      · simp [h, tget_tset r d t v]

inductive DR (g : Ghost) : List (V × List V) → List Deferred → Prop
  | nil : DR g [] []
  | cons {k : FuncId} {ca args : List V} {d : Deferred} {r : List (V × List V)} {ds : List Deferred} {ca' : Array Value} :
      d.target = .fn (.func k) ca' → VRl g ca ca'.toList → VRl g args d.args.toList → DR g r ds → DR g ((.func (.func k) [] ca, args) :: r) (d :: ds)
  | mark {i B : Nat} {r : List (V × List V)} {ds : List Deferred} : g.κ i = some B → DR g r ds → DR g ((.yield i, []) :: r) ({ target := .collected B, args := #[] } :: ds)

theorem DR.mono {g g' : Ghost} (h : g.le g') {r : List (V × List V)} {ds : List Deferred} (k : DR g r ds) : DR g' r ds := by
  induction k with
  | nil => exact .nil
  | cons a b c _ ih => exact .cons a (VRl.mono h _ _ b) (VRl.mono h _ _ c) ih
  | mark a _ ih => exact .mark (h.κ _ _ a) ih

structure FR (g : Ghost) (f : Fr) (a : Act) : Prop where
  t : ∀ i, VR g (tget f.t i) (a.tmps.getD i undef)
  d : DR g f.d a.defers

theorem FR.mono {g g' : Ghost} (h : g.le g') {f : Fr} {a : Act} (k : FR g f a) : FR g' f a := ⟨fun i => (k.t i).mono h, k.d.mono h⟩

section
variable {C : Cfg} {g : Ghost} {w : World} {st : St} {w0 : W0} {base : Nat} {K : FuncId → List V → St → Option (V × St)}

theorem FR.eval {f : Fr} {a : Act} (h : FR g f a) {w0 : W0} {base : Nat} (hg : GlobR C g w0 base) (x : Operand) : VR g (evalO C f x) (a.eval x) := by
  cases x with
  | tmp t => exact h.t t
  | const v => exact ofVal_VR g v
  | global i => exact hg.vr i
  | func k => exact ⟨#[], #[], rfl, rfl, rfl⟩

theorem VR_undef (g : Ghost) : VR g (.tup []) undef := ⟨#[], rfl, rfl⟩

theorem getD_put (a : Act) {d : Tmp} (hd : d < a.tmps.size) (v : Value) (t : Nat) : (a.put (some d) v).tmps.getD t undef = if t = d then v else a.tmps.getD t undef := by
  simp only [Act.put]
  by_cases h : t = d
  · subst h; simp [hd]
  · simp [h, Array.getElem?_setIfInBounds_ne (Ne.symm h)]

theorem FR.put {f : Fr} {a : Act} (h : FR g f a) {dst : Option Tmp} (hd : ∀ d, dst = some d → d < a.tmps.size) {v : V} {v' : Value} (hv : VR g v v') : FR g (f.put dst v) (a.put dst v') := by
  cases dst with
  | none => exact h
  | some d =>
    refine ⟨fun i => ?_, h.d⟩
    rw [getD_put a (hd d rfl) v' i]
    simp only [Fr.put, tget_tset]
    split
    · exact hv
    · exact h.t i

theorem size_put (a : Act) (dst : Option Tmp) (v : Value) : (a.put dst v).tmps.size = a.tmps.size := by
  cases dst <;> simp [Act.put]

/-- Is an operation to be done? As the evaluator says. -/
theorem wantedV_sound {f : Fr} {a : Act} {ops : Array Oper} {o : Oper} (ht : ∀ i, (∃ gw, o.guard = some gw ∧ (ops[gw.1]?).bind (·.dst) = some i) → VR g (tget f.t i) (a.tmps.getD i undef)) (hsz : ∀ i, (∃ gw, o.guard = some gw ∧ (ops[gw.1]?).bind (·.dst) = some i) → i < a.tmps.size) {b : Bool} (h : wantedV f ops o = some b) :
    Region.wanted o (yielded ops a.tmps) = b := by
  unfold wantedV at h
  unfold Region.wanted
  cases hg : o.guard with
  | none => rw [hg] at h; cases h; rfl
  | some gw =>
    obtain ⟨j, want⟩ := gw
    rw [hg] at h
    simp only at h ⊢
    unfold yielded
    cases hd : (ops[j]?).bind (·.dst) with
    | none => rw [hd] at h; cases h; simp
    | some d =>
      rw [hd] at h
      simp only at h
      have hv := ht d ⟨(j, want), hg, hd⟩
      have hlt := hsz d ⟨(j, want), hg, hd⟩
      simp only [Option.bind_some]
      have hget : a.tmps[d]? = some (a.tmps.getD d undef) := by simp [hlt]
      rw [hget]
      cases hx : tget f.t d <;> rw [hx] at h hv <;> simp only [reduceCtorEq, Option.some.injEq] at h
      case bool b' =>
        simp only [VR] at hv
        rw [hv]
        subst h
        simp only
        cases b' <;> cases want <;> rfl
      case tup vs =>
        obtain ⟨us, hu, _⟩ := hv
        rw [hu]
        subst h
        simp

/-! ### Calls of functions -/
theorem funcs_name (hC : COk C) {k : FuncId} {fn : Func} (h : C.P.funcs[k]? = some fn) : (fn.name == "runtime.NumGoroutine") = false ∧ ∀ c, fn.body = some c → codeOk fn.ntmps c = true := by
  have hm : fn ∈ C.P.funcs.toList := by
    rw [← Array.getElem?_toList] at h
    exact List.mem_of_getElem? h
  have := List.all_eq_true.1 hC.funcs fn hm
  simp only [funcOk, Bool.and_eq_true, bne_iff_ne, ne_eq] at this
  exact ⟨by simpa using this.2, fun c hc => by have h1 := this.1; rw [hc] at h1; exact h1⟩

theorem run_callFunc (hC : COk C) {k : FuncId} {fn : Func} (h : C.P.funcs[k]? = some fn) (hb : fn.body.isSome = true) (args : Array Value) (w : World) : (callFunc k args).run C.P w = .ok (.enter k args) w := by
  have h1 := (funcs_name hC h).1
  have h2 : fn.body.isNone = false := by simpa using hb
  simp only [callFunc, Sem.run_bind, run_program, Result.andThen_ok, h, h1, h2, Bool.false_eq_true, if_false, Sem.run_pure]

theorem run_receiverVal {t : TypeId} {d : TypeDesc} (hu : C.P.underlying t = some d) (hd : ∀ e, d ≠ .pointer e) (v : Value) (wr : Option String) (w : World) : (receiverAt t (.val v) false wr).run C.P w = .ok v w := by
  simp only [receiverAt, Sem.run_bind, run_underlying hu, Result.andThen_ok]
  cases d <;> first
    | exact absurd rfl (hd _)
    | rfl
theorem run_receiverPtr {t e : TypeId} (hu : C.P.underlying t = some (.pointer e)) (v : Value) (wr : Option String) (w : World) : (receiverAt t (.val v) true wr).run C.P w = .ok v w := by
  simp only [receiverAt, Sem.run_bind, run_underlying hu, Result.andThen_ok]
  rfl

theorem methodV_sound (hC : COk C) {t : TypeId} {v : V} {name : String} {k : FuncId} {x : V} (h : methodV C t v name = some (k, x)) {v' : Value} (hv : VR g v v') (n : Nat) (w : World) :
    ∃ x', (method (n + 1) t v' name).run C.P w = .ok (k, x') w ∧ VR g x x' := by
  unfold methodV at h
  split at h
  · rename_i m hm
    split at h
    · rename_i hp
      cases hi : C.P.info? t with
      | none => rw [hi] at hm; cases hm
      | some i =>
        rw [hi, Option.bind_some] at hm
        have hpath : m.path.toList = [] := by simpa using hp
        split at h
        · rename_i f e hf hu
          cases h
          refine ⟨v', ?_, hv⟩
          simp only [method, typeInfo, Sem.run_bind, run_program, Result.andThen_ok, hi, Sem.run_pure, hm, hpath, follow, hf, run_receiverPtr hu]
        · cases h
        · cases h
        · rename_i f d hnot hf hu
          cases h
          refine ⟨v', ?_, hv⟩
          have hd : ∀ e, d ≠ .pointer e := fun e he => by subst he; simp_all
          simp only [method, typeInfo, Sem.run_bind, run_program, Result.andThen_ok, hi, Sem.run_pure, hm, hpath, follow, hf, run_receiverVal hu hd]
        · cases h
    · cases h
  · cases h

/-! ### Slices held against nil -/
theorem run_nilSl {op : BinOp} (ho : op = .eql ∨ op = .neq) {t e : TypeId} (hu : C.P.underlying t = some (.slice e)) (ox oy : Operand) (a : Option Addr) (n cap : Nat) (w : World) :
    ((do eqGuard op t ox oy (.slice a n cap) (.slice none 0 0); binOp op t (.slice a n cap) (.slice none 0 0) : Sem Value)).run C.P w = .ok (.bool (if op = .eql then a.isNone else !a.isNone)) w := by
  have key : ∀ d, (Op.equalIn (d + 1) t (.slice a n cap) (.slice none 0 0)).run C.P w = .ok a.isNone w := fun d => by
    cases a <;> simp only [Op.equalIn, Sem.run_bind, run_underlying hu, Result.andThen_ok] <;> rfl
  have k2 : (Op.equal t (.slice a n cap) (.slice none 0 0)).run C.P w = .ok a.isNone w := key 9999
  have k3 : (eqGuard op t ox oy (.slice a n cap) (.slice none 0 0)).run C.P w = .ok () w := by
    rcases ho with rfl | rfl <;> rfl
  rw [Sem.run_bind, k3, Result.andThen_ok]
  rcases ho with rfl | rfl
  · rw [binOp_eql t rfl, Sem.run_bind, k2]; rfl
  · rw [binOp_neq t rfl, Sem.run_bind, k2]; rfl

theorem isNilSl_eval {y : Operand} (h : isNilSl y = true) (a : Act) : a.eval y = .slice none 0 0 := by
  unfold isNilSl at h
  split at h
  · rfl
  · cases h

theorem nilSlV_spec {g : Ghost} {op : BinOp} {x v : V} (h : nilSlV op x = some v) {x' : Value} (hx : VR g x x') : (op = .eql ∨ op = .neq) ∧ ∃ a n cap, x' = .slice (some a) n cap ∧ v = .bool (if op = .eql then false else true) := by
  unfold nilSlV at h
  split at h
  · obtain ⟨a, cap, vs, S, rfl, _, _, _, h5⟩ := hx
    obtain ⟨B, o, rfl, _⟩ := h5 (by simp)
    split at h
    · cases h; exact ⟨.inl rfl, _, _, _, rfl, rfl⟩
    · cases h; exact ⟨.inr rfl, _, _, _, rfl, rfl⟩
    · cases h
  · obtain ⟨B, _, cap', rfl, _⟩ := hx
    split at h
    · cases h; exact ⟨.inl rfl, _, _, _, rfl, rfl⟩
    · cases h; exact ⟨.inr rfl, _, _, _, rfl, rfl⟩
    · cases h
  · cases h

/-! ### Names are never given twice -/
theorem appendM_n {st st' : St} {t : TypeId} {x y v : V} (h : appendM C st t x y = some (v, st')) : st.n ≤ st'.n := by
  unfold appendM at h
  split at h
  · split at h
    · split at h
      · split at h
        · cases h; exact Nat.le_refl _
        · split at h
          · split at h
            · split at h
              · cases h; simp
              · cases h
            · cases h
          · split at h
            · cases h; simp
            · cases h
          · cases h
      · cases h
    · cases h
  · cases h
theorem appendV_n {st st' : St} {t : TypeId} {x y v : V} (h : appendV C st t x y = some (v, st')) : st.n ≤ st'.n := by
  unfold appendV at h
  split at h
  · exact appendM_n h
  · split at h
    · split at h
      · split at h
        · cases h; exact Nat.le_refl _
        · split at h
          · split at h
            · cases h
            · split at h
              · exact appendM_n h
              · cases h; simp
            · split at h
              · split at h
                · cases h; simp
                · cases h
              · cases h
          · cases h
      · cases h
    · cases h
  · cases h

theorem wrOp_n (hK : KOk C K) {ρ : Operand → V} {op : Op} {v : V} {st st' : St} (h : wrOp C K ρ st op = some (v, st')) : st.n ≤ st'.n := by
  cases op <;> simp only [wrOp, reduceCtorEq] at h
  case store t x y => cases hs : storeH C st.H t (ρ x) (ρ y) <;> rw [hs] at h <;> cases h; exact Nat.le_refl _
  case mapUpdate t m k y => cases hs : mapUpdH C st.H t (ρ m) (ρ k) (ρ y) <;> rw [hs] at h <;> cases h; exact Nat.le_refl _
  case insert t m k y => cases hs : mapUpdH C st.H t (ρ m) (ρ k) (ρ y) <;> rw [hs] at h <;> cases h; exact Nat.le_refl _
  case range t x => exact rangeV_n h
  case next it s => cases s <;> simp only [wrOp, reduceCtorEq] at h; exact nextV_n h
  case entry it => rw [entryV_st h]; exact Nat.le_refl _
  case lookup t x i ok => cases hs : lookupG C st.H t (ρ x) (ρ i) ok <;> rw [hs] at h <;> cases h; exact Nat.le_refl _
  case typeAssert x xt q ok => cases hs : typeAssertV C (ρ x) q ok <;> rw [hs] at h <;> cases h; exact Nat.le_refl _
  case binOp op t x y yt =>
    split at h
    · split at h
      · cases hv : nilSlV op (ρ x) <;> rw [hv] at h <;> cases h; exact Nat.le_refl _
      · cases h
    · cases h
  case call c =>
    obtain ⟨callee, args, argTypes⟩ := c
    cases callee
    case value q =>
      simp only at h
      cases hqv : ρ q <;> rw [hqv] at h <;> (first | (cases h; done) | skip)
      rename_i fn fi ca
      cases fn <;> (first | (cases h; done) | skip)
      exact (hK _ _ _ _ _ h).1
    case invoke r name =>
      simp only at h
      cases hrv : ρ r <;> rw [hrv] at h <;> (first | (cases h; done) | skip)
      simp only at h
      split at h
      · exact (hK _ _ _ _ _ h).1
      · cases h
    case builtin b =>
      cases b <;> (first | (cases h; done) | skip)
      case append =>
        simp only at h
        split at h
        · split at h
          · exact appendV_n h
          · exact appendV_n h
          · cases h
        · cases h
      case delete =>
        simp only at h
        split at h
        · rename_i m k t u _ _
          cases hs : delH C st.H t (ρ m) (ρ k) <;> rw [hs] at h <;> cases h
          exact Nat.le_refl _
        · cases h

theorem add_n (st : St) (ob : Option Ob) : st.n ≤ (st.add ob).n := by cases ob <;> simp [St.add]

theorem quietOp_n {f : Fr} {op : Op} {v : V} {st st' : St} (h : quietOp C f st op = some (v, st')) : st.n ≤ st'.n := by
  unfold quietOp at h
  split at h
  · cases h; exact Nat.le_refl _
  · split at h
    · cases h; exact add_n _ _
    · cases h

theorem runOp_n (hK : KOk C K) {f f' : Fr} {o : Oper} {st st' : St} (h : runOp C K f st o = some (f', st')) : st.n ≤ st'.n := by
  unfold runOp at h
  split at h
  · rename_i hq; cases h; exact quietOp_n hq
  · split at h
    · split at h
      · cases h; exact Nat.le_refl _
      · cases h
    · cases hw : wrOp C K (evalO C f) st o.op with
      | none => rw [hw] at h; cases h
      | some r => rw [hw] at h; cases h; exact wrOp_n hK hw

theorem runOps_n (hK : KOk C K) (ops : Array Oper) : ∀ (l : List Oper) {f f' : Fr} {st st' : St}, runOps C K ops l f st = some (f', st') → st.n ≤ st'.n
  | [], f, f', st, st', h => by simp only [runOps, Option.some.injEq, Prod.mk.injEq] at h; rw [h.2]; exact Nat.le_refl _
  | o :: rest, f, f', st, st', h => by
    simp only [runOps] at h
    split at h
    · split at h
      · rename_i hop; exact Nat.le_trans (runOp_n hK hop) (runOps_n hK ops rest h)
      · cases h
    · exact runOps_n hK ops rest h
    · cases h

/-- **Operations that may change memory.** -/
theorem wr_sound (hC : COk C) (hK : KOk C K) (hG : GR g st w0 base w) (hgl : GlobR C g w0 base) {ρ : Operand → V} {a : Act} (o : Oper) (hρ : ∀ x, VR g (ρ x) (a.eval x)) {v : V} {st' : St} (h : wrOp C K ρ st o.op = some (v, st')) :
    ∀ (Kc : Act → World → Prop) (Q : Exit → Act → World → Prop), (∀ g' v' w', Ext st.n g g' → VR g' v v' → GR g' st' w0 base w' → Kc (a.put o.dst v') w') → o.wp C.P a w Kc Q := by
  have enter : ∀ (k : FuncId) (args : List V) (args' : Array Value), K k args st = some (v, st') → VRl g args args'.toList → (execOp a.eval o).run C.P w = .ok (.enter k args') w →
      ∀ (Kc : Act → World → Prop) (Q : Exit → Act → World → Prop), (∀ g' v' w', Ext st.n g g' → VR g' v v' → GR g' st' w0 base w' → Kc (a.put o.dst v') w') → o.wp C.P a w Kc Q := by
    intro k args args' hk hargs hrun
    obtain ⟨h1, _, h3⟩ := hK k args st v st' hk
    intro Kc Q hKc
    unfold Oper.wp
    rw [hrun, Oper.upon_enter]
    refine (h3 g w0 base w args' hG hgl hargs).mono fun e w' ⟨v', g', he, hext, hv, hG'⟩ => ?_
    subst he
    exact hKc g' v' w' hext hv hG'
  obtain ⟨dst, op, type, pos, after, guard⟩ := o
  simp only at h
  cases op <;> simp only [wrOp, reduceCtorEq] at h
  case store t x y =>
    cases hs : storeH C st.H t (ρ x) (ρ y) with
    | none => rw [hs] at h; cases h
    | some H =>
      rw [hs] at h; cases h
      obtain ⟨w', h1, h2⟩ := storeV_sound hG hs (hρ x) (hρ y)
      intro Kc Q hKc
      unfold Oper.wp
      simp only [execOp, Sem.run_bind, h1, Result.andThen_ok, Sem.run_pure, Oper.upon]
      exact hKc g undef w' (Ext.refl _ _) (VR_undef g) h2
  case mapUpdate t m k y =>
    cases hs : mapUpdH C st.H t (ρ m) (ρ k) (ρ y) with
    | none => rw [hs] at h; cases h
    | some H =>
      rw [hs] at h; cases h
      obtain ⟨w', h1, h2⟩ := mapUpdV_sound hC hG hs (hρ m) (hρ k) (hρ y)
      intro Kc Q hKc
      unfold Oper.wp
      simp only [execOp, Sem.run_bind, h1, Result.andThen_ok, Sem.run_pure, Oper.upon]
      exact hKc g undef w' (Ext.refl _ _) (VR_undef g) h2
  case insert t m k y =>
    cases hs : mapUpdH C st.H t (ρ m) (ρ k) (ρ y) with
    | none => rw [hs] at h; cases h
    | some H =>
      rw [hs] at h; cases h
      obtain ⟨w', h1, h2⟩ := mapUpdV_sound hC hG hs (hρ m) (hρ k) (hρ y)
      intro Kc Q hKc
      unfold Oper.wp
      simp only [execOp, Sem.run_bind, h1, Result.andThen_ok, Sem.run_pure, Oper.upon]
      exact hKc g undef w' (Ext.refl _ _) (VR_undef g) h2
  case range t x =>
    obtain ⟨v', w', g', h1, h2, h3, h4, h5⟩ := rangeV_sound hG h (hρ x)
    intro Kc Q hKc
    unfold Oper.wp
    simp only [execOp, Sem.run_bind, h1, Result.andThen_ok, Sem.run_pure, Oper.upon]
    exact hKc g' v' w' ⟨h2, h3⟩ h4 h5
  case next it s =>
    cases s <;> simp only [wrOp, reduceCtorEq] at h
    obtain ⟨v', w', h1, h2, h3⟩ := nextV_sound (C := C) hG h (hρ it) type
    intro Kc Q hKc
    unfold Oper.wp
    simp only [execOp, Sem.run_bind, h1, Result.andThen_ok, Sem.run_pure, Oper.upon]
    exact hKc g v' w' (Ext.refl _ _) h2 h3
  case entry it =>
    obtain ⟨rfl, v', h1, h2⟩ := entryV_sound (C := C) hG h (hρ it)
    intro Kc Q hKc
    unfold Oper.wp
    simp only [execOp, Sem.run_bind, h1, Result.andThen_ok, Sem.run_pure, Oper.upon]
    exact hKc g v' w (Ext.refl _ _) h2 hG
  case lookup t x i ok =>
    cases hs : lookupG C st.H t (ρ x) (ρ i) ok with
    | none => rw [hs] at h; cases h
    | some u =>
      rw [hs] at h; cases h
      obtain ⟨v', h1, h2⟩ := lookupG_sound hC hG hs (hρ x) (hρ i)
      intro Kc Q hKc
      unfold Oper.wp
      simp only [execOp, Sem.run_bind, h1, Result.andThen_ok, Sem.run_pure, Oper.upon]
      exact hKc g v' w (Ext.refl _ _) h2 hG
  case typeAssert x xt q ok =>
    cases hs : typeAssertV C (ρ x) q ok with
    | none => rw [hs] at h; cases h
    | some u =>
      rw [hs] at h; cases h
      obtain ⟨v', h1, h2⟩ := typeAssertV_sound hs (hρ x) xt w
      intro Kc Q hKc
      unfold Oper.wp
      simp only [execOp, Sem.run_bind, h1, Result.andThen_ok, Sem.run_pure, Oper.upon]
      exact hKc g v' w (Ext.refl _ _) h2 hG
  case binOp op t x y yt =>
    split at h
    · rename_i hy
      split at h
      · rename_i e hu
        cases hv : nilSlV op (ρ x) with
        | none => rw [hv] at h; cases h
        | some v2 =>
          rw [hv] at h; cases h
          obtain ⟨ho, a0, n, cap, hx, rfl⟩ := nilSlV_spec hv (hρ x)
          intro Kc Q hKc
          unfold Oper.wp
          have hrun : (execOp a.eval { dst := dst, op := .binOp op t x y yt, type := type, pos := pos, after := after, guard := guard }).run C.P w = .ok (.value (.bool (if op = .eql then false else true))) w := by
            simp only [execOp]
            rw [Sem.run_bind, isNilSl_eval hy a, hx, run_nilSl (C := C) ho hu]
            rfl
          rw [hrun, Oper.upon_value]
          exact hKc g _ w (Ext.refl _ _) rfl hG
      · cases h
    · cases h
  case call c =>
    obtain ⟨callee, args, argTypes⟩ := c
    cases callee
    case value q =>
      simp only at h
      have hq := hρ q
      cases hqv : ρ q <;> rw [hqv] at h hq <;> (first | (cases h; done) | skip)
      rename_i fn fi ca
      cases fn <;> (first | (cases h; done) | skip)
      rename_i k
      obtain ⟨fi', ca', hq', h1, h2⟩ := hq
      simp only at h
      obtain ⟨_, ⟨fn, hf1, hf2⟩, _⟩ := hK _ _ _ _ _ h
      refine enter k _ (fi' ++ args.map a.eval ++ ca') h ?_ ?_
      · simp only [Array.toList_append, Array.toList_map]
        exact (h1.append (VRl.map hρ _)).append h2
      · simp only [execOp, resolve, hq', Deferred.ofValue, Sem.run_bind, Sem.run_pure, Result.andThen_ok, invoke, run_callFunc hC hf1 hf2]
    case invoke r name =>
      simp only at h
      have hr := hρ r
      cases hrv : ρ r <;> rw [hrv] at h hr <;> (first | (cases h; done) | skip)
      rename_i t y
      obtain ⟨y', hr', hy⟩ := hr
      simp only at h
      split at h
      · rename_i k x hm
        obtain ⟨x', h1, h2⟩ := methodV_sound hC hm hy (C.P.types.size + 99) w
        obtain ⟨_, ⟨fn, hf1, hf2⟩, _⟩ := hK _ _ _ _ _ h
        refine enter k _ (#[x'] ++ args.map a.eval) h ?_ ?_
        · simp only [Array.toList_append, Array.toList_map]
          exact ⟨x', _, rfl, h2, VRl.map hρ _⟩
        · have hext : (#[Value.iface t y'] ++ args.map a.eval).extract 1 (#[Value.iface t y'] ++ args.map a.eval).size = args.map a.eval := by
            apply Array.toList_inj.1
            simp [List.extract_eq_take_drop]
            exact List.take_of_length_le (by simp)
          have h0 : (#[Value.iface t y'] ++ args.map a.eval)[0]? = some (Value.iface t y') := by rw [← Array.getElem?_toList]; simp
          have h1' : (method (C.P.types.size + Made.depth) t y' name).run C.P w = .ok (k, x') w := h1
          simp only [execOp, resolve, hr', Sem.run_bind, Sem.run_pure, Result.andThen_ok, invoke, h0, hext, callMethod, run_program, h1', run_callFunc hC hf1 hf2]
      · cases h
    case builtin b =>
      cases b <;> (first | (cases h; done) | skip)
      case append =>
        simp only at h
        split at h
        · rename_i x y t u ha ht
          have e1 : args.map a.eval = #[a.eval x, a.eval y] := by apply Array.toList_inj.1; rw [Array.toList_map, ha]; rfl
          have e2 : argTypes = #[t, u] := by apply Array.toList_inj.1; rw [ht]
          have main : ((∃ e, C.P.underlying u = some (.slice e)) ∨ C.P.underlying u = some .string) → appendV C st t (ρ x) (ρ y) = some (v, st') →
              ∀ (Kc : Act → World → Prop) (Q : Exit → Act → World → Prop), (∀ g' v' w', Ext st.n g g' → VR g' v v' → GR g' st' w0 base w' → Kc (a.put dst v') w') →
                Oper.wp C.P { dst := dst, op := .call { callee := .builtin .append, args := args, argTypes := argTypes }, type := type, pos := pos, after := after, guard := guard } a w Kc Q := by
            intro hu hap Kc Q hKc
            obtain ⟨v', w', g', h1, h2, h3, h4, h5, h6⟩ := appendV_sound hG hu hap (hρ x) (hρ y) type
            unfold Oper.wp
            simp only [execOp, resolve, e1, e2, Sem.run_bind, Sem.run_pure, Result.andThen_ok, invoke, builtin, h1, Oper.upon]
            exact hKc g' v' w' ⟨h2, h6⟩ h3 h4
          split at h
          · rename_i e hu; exact main (.inl ⟨e, hu⟩) h
          · rename_i hu; exact main (.inr hu) h
          · cases h
        · cases h
      case delete =>
        simp only at h
        split at h
        · rename_i m k t u ha ht
          have e1 : args.map a.eval = #[a.eval m, a.eval k] := by apply Array.toList_inj.1; rw [Array.toList_map, ha]; rfl
          have e2 : argTypes = #[t, u] := by apply Array.toList_inj.1; rw [ht]
          cases hs : delH C st.H t (ρ m) (ρ k) with
          | none => rw [hs] at h; cases h
          | some H =>
            rw [hs] at h; cases h
            obtain ⟨w', h1, h2⟩ := delH_sound hC hG hs (hρ m) (hρ k) u type
            intro Kc Q hKc
            unfold Oper.wp
            simp only [execOp, resolve, e1, e2, Sem.run_bind, Sem.run_pure, Result.andThen_ok, invoke, builtin, h1, Oper.upon]
            exact hKc g (.tuple #[]) w' (Ext.refl _ _) ⟨#[], rfl, rfl⟩ h2
        · cases h

/-- Operations that leave what there is as it is. -/
theorem quiet_sound (hC : COk C) (hG : GR g st w0 base w) {f : Fr} {a : Act} (hρ : ∀ x, VR g (evalO C f x) (a.eval x)) (o : Oper) {v : V} {st' : St} (h : quietOp C f st o.op = some (v, st')) :
    ∃ g' v' w', Ext st.n g g' ∧ VR g' v v' ∧ GR g' st' w0 base w' ∧ (execOp a.eval o).run C.P w = .ok (.value v') w' := by
  unfold quietOp at h
  split at h
  · rename_i u hr
    cases h
    obtain ⟨v', h1, h2⟩ := rd_sound hC hG hρ o hr
    exact ⟨g, v', w, Ext.refl _ _, h2, hG, h1⟩
  · split at h
    · rename_i u ob hr
      cases h
      have hn := hG.lim st.n (Nat.le_refl _)
      obtain ⟨v', w', g', h1, h2, h3, h4, h5⟩ := al_sound (C := C) (hG.add ob) hρ o hr (fun x hx => by subst hx; exact ⟨by simp [St.add, hget], by simp [St.add], hn.1, hn.2⟩)
      exact ⟨g', v', w', ⟨h2, fun i hi => h5 i (.inl (by omega))⟩, h3, h4, h1⟩
    · cases h

/-- One operation. -/
theorem runOp_sound (hC : COk C) (hK : KOk C K) (hG : GR g st w0 base w) (hgl : GlobR C g w0 base) {f f' : Fr} {a : Act} (hf : FR g f a) (o : Oper) (hd : ∀ d, o.dst = some d → d < a.tmps.size) {st' : St} (h : runOp C K f st o = some (f', st')) :
    ∀ (Kc : Act → World → Prop) (Q : Exit → Act → World → Prop), (∀ g' a' w', Ext st.n g g' → FR g' f' a' → GR g' st' w0 base w' → a'.tmps.size = a.tmps.size → Kc a' w') → o.wp C.P a w Kc Q := by
  have hρ := hf.eval (C := C) hgl
  unfold runOp at h
  split at h
  · rename_i v st2 hq
    cases h
    obtain ⟨g', v', w', h2, h3, h4, h5⟩ := quiet_sound hC hG hρ o hq
    intro Kc Q hKc
    unfold Oper.wp
    rw [h5, Oper.upon_value]
    exact hKc g' _ w' h2 ((hf.mono h2.le).put hd h3) h4 (size_put _ _ _)
  · split at h
    · rename_i q args ats hop
      split at h
      · rename_i k fi ca hq
        cases h
        intro Kc Q hKc
        have hqr := hρ q
        rw [hq] at hqr
        obtain ⟨fi', ca', hq', h1, h2⟩ := hqr
        unfold Oper.wp
        have : (execOp a.eval o).run C.P w = .ok (.defer { target := .fn (.func k) ca', args := fi' ++ args.map a.eval }) w := by
          simp only [execOp, hop, resolve, hq', Deferred.ofValue, Sem.run_bind, Sem.run_pure, Result.andThen_ok]
        rw [this, Oper.upon_defer]
        refine hKc g _ w (Ext.refl _ _) ?_ hG (size_put _ _ _)
        refine FR.put (f := { f with d := _ :: f.d }) (a := { a with defers := _ :: a.defers }) ⟨hf.t, .cons rfl h2 ?_ hf.d⟩ hd (VR_undef g)
        simp only [Array.toList_append, Array.toList_map]
        exact h1.append (VRl.map hρ _)
      · cases h
    · cases hw : wrOp C K (evalO C f) st o.op with
      | none => rw [hw] at h; cases h
      | some r =>
        obtain ⟨v, st2⟩ := r
        rw [hw] at h; cases h
        exact fun Kc Q hKc => wr_sound hC hK hG hgl o hρ hw Kc Q fun g' v' w' h3 h4 h5 => hKc g' _ w' h3 ((hf.mono h3.le).put hd h4) h5 (size_put _ _ _)

theorem opsOk_dst {ops : Array Oper} {N : Nat} (hall : opsOk N ops = true) {p : Oper} (hp : p ∈ ops.toList) {d : Tmp} (hd : p.dst = some d) : d < N := by
  have := List.all_eq_true.1 hall p hp
  rw [hd] at this
  simpa using this

theorem opsOk_guard {ops : Array Oper} {N : Nat} (hall : opsOk N ops = true) (o : Oper) (i : Nat) (h : ∃ gw, o.guard = some gw ∧ (ops[gw.1]?).bind (·.dst) = some i) : i < N := by
  obtain ⟨gw, _, hb⟩ := h
  cases hp : ops[gw.1]? with
  | none => rw [hp] at hb; cases hb
  | some p =>
    rw [hp, Option.bind_some] at hb
    exact opsOk_dst hall (by rw [← Array.getElem?_toList] at hp; exact List.mem_of_getElem? hp) hb

/-- Operations, one behind the other. -/
theorem runOps_sound (hC : COk C) (hK : KOk C K) (ops : Array Oper) {N : Nat} (hall : opsOk N ops = true) (Q : Exit → Act → World → Prop) : ∀ (l : List Oper), (∀ o ∈ l, o ∈ ops.toList) → ∀ {g : Ghost} {w : World} {st st' : St} {f f' : Fr} {a : Act},
    GR g st w0 base w → GlobR C g w0 base → FR g f a → a.tmps.size = N → runOps C K ops l f st = some (f', st') →
    (∀ g' a' w', Ext st.n g g' → FR g' f' a' → GR g' st' w0 base w' → a'.tmps.size = N → Q .normal a' w') → wpList C.P ops Q l a w
  | [], _, g, w, st, st', f, f', a, hG, hgl, hf, hN, h, hQ => by
    simp only [runOps, Option.some.injEq, Prod.mk.injEq] at h
    obtain ⟨rfl, rfl⟩ := h
    exact hQ g a w (Ext.refl _ _) hf hG hN
  | o :: rest, hmem, g, w, st, st', f, f', a, hG, hgl, hf, hN, h, hQ => by
    have hmem' : ∀ o ∈ rest, o ∈ ops.toList := fun x hx => hmem x (List.mem_cons_of_mem _ hx)
    have hsz : ∀ i, (∃ gw, o.guard = some gw ∧ (ops[gw.1]?).bind (·.dst) = some i) → i < a.tmps.size := fun i hi => by rw [hN]; exact opsOk_guard hall o i hi
    have hd : ∀ d, o.dst = some d → d < a.tmps.size := fun d hd => by rw [hN]; exact opsOk_dst hall (hmem o List.mem_cons_self) hd
    simp only [runOps] at h
    refine wpList_step fun Kc hKc => ?_
    split at h
    · rename_i hw
      split at h
      · rename_i f2 st2 hop
        rw [if_pos (wantedV_sound (fun i _ => hf.t i) hsz hw)]
        exact runOp_sound hC hK hG hgl hf o hd hop Kc Q fun g' a' w' e1 e2 e3 e4 => hKc a' w'
          (runOps_sound hC hK ops hall Q rest hmem' e3 (hgl.mono e1.le) e2 (e4.trans hN) h fun g2 a2 w2 k1 k2 k3 k4 => hQ g2 a2 w2 (e1.trans k1 (runOp_n hK hop)) k2 k3 k4)
      · cases h
    · rename_i hw
      rw [if_neg (by rw [wantedV_sound (fun i _ => hf.t i) hsz hw]; simp)]
      exact hKc _ _ (runOps_sound hC hK ops hall Q rest hmem' hG hgl (hf.put hd (VR_undef g)) ((size_put _ _ _).trans hN) h hQ)
    · cases h
end
end Go.Vm
/- Regions whose order is open: words on single operations. -/
namespace Go.Vm
open Go Go.RowKit

section
variable {C : Cfg}

theorem mapCongr {ρ ρ2 : Operand → V} {l : List (Nat × Operand)} (h : ∀ x ∈ l.map (·.2), ρ x = ρ2 x) : (l.map fun (i, x) => (i, ρ x)) = l.map fun (i, x) => (i, ρ2 x) := by
  apply List.map_congr_left
  intro p hp
  obtain ⟨i, x⟩ := p
  simp only [h x (List.mem_map.2 ⟨(i, x), hp, rfl⟩)]

theorem rdOp_congr {H : List (Nat × Ob)} {ρ ρ2 : Operand → V} {op : Op} (h : ∀ x ∈ op.operands, ρ x = ρ2 x) : rdOp C H ρ op = rdOp C H ρ2 op := by
  cases op <;> simp only [rdOp] <;> simp only [Op.operands] at h
  case move x => rw [h x (by simp)]
  case assign x => rw [h x (by simp)]
  case pick c a b => rw [h c (by simp), h a (by simp), h b (by simp)]
  case build t ps => rw [mapCongr (ρ := ρ) (ρ2 := ρ2) fun x hx => h x (by simpa using hx)]
  case load t x => rw [h x (by simp)]
  case nilCheck x => rw [h x (by simp)]
  case binOp op t x y yt => rw [h x (by simp), h y (by simp)]
  case unOp op t x => rw [h x (by simp)]
  case convert s d x => rw [h x (by simp)]
  case makeInterface t x => rw [h x (by simp)]
  case makeFunc fn first captured =>
    rw [List.map_congr_left (l := first.toList) (f := ρ) (g := ρ2) fun x hx => h x (by simp; exact .inl (by simpa using hx)),
      List.map_congr_left (l := captured.toList) (f := ρ) (g := ρ2) fun x hx => h x (by simp; exact .inr (by simpa using hx))]
  case slice t x lo hi mx =>
    cases mx with
    | some m =>
      cases hi with
      | none => rfl
      | some y =>
        simp only
        rw [h x (by simp), h y (by simp), h m (by simp)]
        have e1 : lo.map ρ = lo.map ρ2 := by cases lo with | none => rfl | some y => simp only [Option.map_some]; rw [h y (by simp)]
        rw [e1]
    | none =>
      simp only
      rw [h x (by simp)]
      have e1 : lo.map ρ = lo.map ρ2 := by cases lo with | none => rfl | some y => simp only [Option.map_some]; rw [h y (by simp)]
      have e2 : hi.map ρ = hi.map ρ2 := by cases hi with | none => rfl | some y => simp only [Option.map_some]; rw [h y (by simp)]
      rw [e1, e2]
  case fieldAddr t x i => rw [h x (by simp)]
  case field t x i => rw [h x (by simp)]
  case indexAddr t x y => rw [h x (by simp), h y (by simp)]
  case index t x y => rw [h x (by simp), h y (by simp)]
  case lookup t x y ok => rw [h x (by simp), h y (by simp)]
  case extract x i => rw [h x (by simp)]
  case call c =>
    obtain ⟨callee, args, argTypes⟩ := c
    cases callee <;> try rfl
    rename_i b
    cases b <;> try rfl
    simp only
    split
    · rename_i x t ha ht
      rw [h x]
      have : x ∈ args.toList := by rw [ha]; simp
      simp [Call.operands]
      simpa using this
    · rfl

theorem alOp_congr {n : Nat} {ρ ρ2 : Operand → V} {op : Op} (h : ∀ x ∈ op.operands, ρ x = ρ2 x) : alOp C n ρ op = alOp C n ρ2 op := by
  cases op <;> simp only [alOp] <;> simp only [Op.operands] at h
  case box t x => rw [h x (by simp)]
  case buildSlice t len ps => rw [mapCongr (ρ := ρ) (ρ2 := ρ2) fun x hx => h x (by simpa using hx)]
  case makeMap t r => cases r <;> rfl
  case convert s d x => rw [h x (by simp)]
  case makeSlice t l c => rw [h l (by simp), h c (by simp)]

/-- More names change no reading. -/
theorem hgetM_mono {H H' : List (Nat × Ob)} (hs : ∀ b o, hget H b = some o → hget H' b = some o) {b : Nat} {es : List (V × V)} (h : hgetM H b = some es) : hgetM H' b = some es := by
  unfold hgetM at h ⊢
  cases hg : hget H b with
  | none => rw [hg] at h; cases h
  | some ob => rw [hg] at h; rw [hs _ _ hg]; exact h
theorem rdOp_mono {H H' : List (Nat × Ob)} (hs : ∀ b o, hget H b = some o → hget H' b = some o) {ρ : Operand → V} {op : Op} {v : V} (h : rdOp C H ρ op = some v) : rdOp C H' ρ op = some v := by
  cases op <;> simp only [rdOp, reduceCtorEq] at h ⊢ <;> (first | exact h | skip)
  case load t x =>
    unfold loadV at h ⊢
    split at h
    · exact h
    · split at h
      · rename_i hg; rw [hs _ _ hg]; exact h
      · cases h
    · cases h
  case convert s d x =>
    unfold convV at h ⊢
    split at h
    · exact h
    · exact h
    · split at h
      · rename_i hg; simp only [hs _ _ hg]; exact h
      · cases h
    · exact h
    · exact h
    · cases h
  case slice t x lo hi mx => cases mx <;> cases hi <;> exact h
  case lookup t x y ok =>
    unfold lookupV at h ⊢
    split at h
    · split at h
      · split at h
        · rename_i h4
          rw [if_pos h4]
          cases hx : ρ x <;> rw [hx] at h <;> (first | (cases h; done) | skip)
          · rename_i b
            simp only at h ⊢
            cases hg : hgetM H b with
            | none => rw [hg] at h; cases h
            | some ob => rw [hg] at h; rw [hgetM_mono hs hg]; exact h
          · exact h
        · cases h
      · cases h
    · cases h
  case call c =>
    obtain ⟨callee, args, argTypes⟩ := c
    cases callee <;> (first | (cases h; done) | skip)
    rename_i b
    cases b <;> (first | (cases h; done) | skip)
    simp only at h ⊢
    split at h
    · unfold lenV at h ⊢
      split at h
      · exact h
      · exact h
      · exact h
      · exact h
      · exact h
      · split at h
        · rename_i hg; simp only [hgetM_mono hs hg]; exact h
        · cases h
      · cases h
    · cases h

theorem rdOp_noheap {H H' : List (Nat × Ob)} {ρ : Operand → V} {op : Op} (hh : heapDep op = false) : rdOp C H ρ op = rdOp C H' ρ op := by
  cases op <;> (first | (simp [heapDep] at hh; done) | rfl | skip)
  case slice t x lo hi mx => cases mx <;> cases hi <;> rfl
  case call c =>
    obtain ⟨callee, args, argTypes⟩ := c
    cases callee <;> (first | rfl | skip)
    rename_i b
    cases b <;> (first | rfl | skip)
    simp [heapDep] at hh

theorem alOp_noheap {n : Nat} {ρ : Operand → V} {op : Op} {v : V} {ob : Option Ob} (hh : heapDep op = false) (h : alOp C n ρ op = some (v, ob)) : ob = none ∧ ∀ m, alOp C m ρ op = some (v, ob) := by
  cases op <;> (first | (simp [heapDep] at hh; done) | (cases h; done) | skip)
  case buildSlice t len ps =>
    refine ⟨?_, fun m => h⟩
    simp only [alOp] at h
    cases hb : buildSliceV C t len (ps.toList.map fun (i, x) => (i, ρ x)) with
    | none => rw [hb] at h; cases h
    | some u => rw [hb] at h; cases h; rfl

theorem rd_al_disj {H : List (Nat × Ob)} {n : Nat} {ρ : Operand → V} {op : Op} {v : V} (h : rdOp C H ρ op = some v) : alOp C n ρ op = none := by
  cases op <;> (first | rfl | (cases h; done) | skip)
  case convert s d x =>
    simp only [rdOp, convV] at h
    simp only [alOp]
    split at h
    · rename_i h1 h2 h3; simp only [h1, h2, h3]
    · rename_i h1 h2 h3; simp only [h1, h2, h3]
    · rename_i h1 h2 h3; simp only [h1, h2, h3]
    · rename_i h1 h2 h3; simp only [h1, h2, h3]
    · rename_i h1 h2 h3; simp only [h1, h2, h3]
    · cases h

/-- The name that a value of new memory bears. -/
def nameOf : V → Option Nat
  | .ptr n 0 | .map n | .msl n 0 _ _ | .sl (.own n) _ => some n
  | _ => none

theorem al_name {n : Nat} {ρ : Operand → V} {op : Op} {v : V} {ob : Ob} (h : alOp C n ρ op = some (v, some ob)) : nameOf v = some n := by
  cases op <;> (first | (cases h; done) | skip) <;> simp only [alOp] at h
  case alloc t =>
    cases hz : zeroV C t with
    | none => rw [hz] at h; cases h
    | some z =>
      rw [hz, Option.bind_some] at h
      cases hc : cellsOf z with
      | none => rw [hc] at h; cases h
      | some cs => rw [hc] at h; cases h; rfl
  case box t x =>
    cases hc : cellsOf (ρ x) with
    | none => rw [hc] at h; cases h
    | some cs => rw [hc] at h; cases h; rfl
  case buildSlice t len ps =>
    cases hb : buildSliceV C t len (ps.toList.map fun (i, x) => (i, ρ x)) with
    | none => rw [hb] at h; cases h
    | some u => rw [hb] at h; cases h
  case makeMap t r => cases r <;> cases h; rfl
  case convert s d x =>
    split at h
    · split at h
      · cases h; rfl
      · cases h
    · cases h
  case makeSlice t l c =>
    split at h
    · split at h
      · split at h
        · split at h
          · cases h; rfl
          · split at h
            · cases h; rfl
            · cases h
        · cases h
      · cases h
    · cases h

/-- Another frame, the same temporaries that are looked at. -/
theorem evalO_same {ops : Array Oper} {o : Oper} {f f' : Fr} (h : ∀ t ∈ o.looksAt ops, tget f'.t t = tget f.t t) : ∀ x ∈ o.op.operands, evalO C f' x = evalO C f x := by
  intro x hx
  cases x with
  | tmp t => exact h t (List.mem_append_left _ (List.mem_filterMap.2 ⟨.tmp t, by simpa using hx, rfl⟩))
  | _ => rfl

theorem wantedV_same {ops : Array Oper} {o : Oper} {f f' : Fr} (h : ∀ t ∈ o.looksAt ops, tget f'.t t = tget f.t t) : wantedV f' ops o = wantedV f ops o := by
  unfold wantedV
  cases hg : o.guard with
  | none => rfl
  | some gw =>
    obtain ⟨j, want⟩ := gw
    simp only
    cases hd : (ops[j]?).bind (·.dst) with
    | none => rfl
    | some d =>
      simp only
      rw [h d (by simp [Oper.looksAt, hg, hd])]

/-- What is looked at is known. -/
noncomputable def masked (C : Cfg) (f : Fr) (op : Op) (x : Operand) : V := by
  classical
  exact if x ∈ op.operands then evalO C f x else .any

theorem masked_eq {f : Fr} {op : Op} : ∀ x ∈ op.operands, evalO C f x = masked C f op x := by
  intro x hx
  unfold masked
  classical
  rw [if_pos hx]

theorem masked_VR {g : Ghost} {f : Fr} {a : Act} {ops : Array Oper} {o : Oper} {w0 : W0} {base : Nat} (hg : GlobR C g w0 base) (h : ∀ t ∈ o.looksAt ops, VR g (tget f.t t) (a.tmps.getD t undef)) (x : Operand) : VR g (masked C f o.op x) (a.eval x) := by
  unfold masked
  classical
  split
  · rename_i hx
    cases x with
    | tmp t => exact h t (List.mem_append_left _ (List.mem_filterMap.2 ⟨.tmp t, by simpa using hx, rfl⟩))
    | const v => exact ofVal_VR g v
    | global i => exact hg.vr i
    | func k => exact ⟨#[], #[], rfl, rfl, rfl⟩
  · trivial

theorem wrOp_congr {K : FuncId → List V → St → Option (V × St)} {st : St} {ρ ρ2 : Operand → V} {op : Op} (h : ∀ x ∈ op.operands, ρ x = ρ2 x) : wrOp C K ρ st op = wrOp C K ρ2 st op := by
  cases op <;> simp only [wrOp] <;> simp only [Op.operands] at h
  case store t x y => rw [h x (by simp), h y (by simp)]
  case mapUpdate t m k y => rw [h m (by simp), h k (by simp), h y (by simp)]
  case insert t m k y => rw [h m (by simp), h k (by simp), h y (by simp)]
  case binOp op t x y yt => rw [h x (by simp)]
  case range t x => rw [h x (by simp)]
  case next it s => cases s <;> simp only [wrOp]; rw [h it (by simp)]
  case entry it => rw [h it (by simp)]
  case lookup t x i ok => rw [h x (by simp), h i (by simp)]
  case typeAssert x xt q ok => rw [h x (by simp)]
  case call c =>
    obtain ⟨callee, args, argTypes⟩ := c
    have hargs : args.toList.map ρ = args.toList.map ρ2 := List.map_congr_left fun x hx => h x (by simp [Call.operands]; right; simpa using hx)
    cases callee
    case value q =>
      simp only
      rw [h q (by simp [Call.operands]), hargs]
    case invoke r name =>
      simp only
      rw [h r (by simp [Call.operands]), hargs]
    case builtin b =>
      cases b <;> try rfl
      all_goals
        simp only
        split
        · rename_i x y t u ha ht
          have hx : x ∈ args.toList := by rw [ha]; simp
          have hy : y ∈ args.toList := by rw [ha]; simp
          rw [h x (by simp [Call.operands]; simpa using hx), h y (by simp [Call.operands]; simpa using hy)]
        · rfl

theorem quietOp_masked {f : Fr} {st : St} {op : Op} : quietOp C f st op = (match rdOp C st.H (masked C f op) op with
    | some v => some (v, st)
    | none => match alOp C st.n (masked C f op) op with
      | some (v, ob) => some (v, st.add ob)
      | none => none) := by
  unfold quietOp
  rw [rdOp_congr (ρ := evalO C f) (ρ2 := masked C f op) masked_eq, alOp_congr (ρ := evalO C f) (ρ2 := masked C f op) masked_eq]
  rfl
end
end Go.Vm
/- Regions whose order is open: one order stands for all. -/
namespace Go.Vm
open Go Go.RowKit

section
variable {C : Cfg} {K : FuncId → List V → St → Option (V × St)} {ops : Array Oper} {N n0 : Nat} {w0 : W0} {base : Nat}

theorem waits_spec {j i : Nat} : waits ops j i = true ↔ ∃ o, ops[j]? = some o ∧ ∃ e ∈ o.after, Region.binds .any e = true ∧ e.on = i := by
  unfold waits
  cases ho : ops[j]? with
  | none => simp
  | some o => simp only [List.any_eq_true, Array.mem_toList_iff, Bool.and_eq_true, beq_iff_eq, Option.some.injEq, exists_eq_left']

theorem readyAt_spec {done : List Nat} {i : Nat} : readyAt ops done i = true ↔ ∃ o, ops[i]? = some o ∧ i ∉ done ∧ ∀ e ∈ o.after, Region.binds .any e = true → e.on ∈ done := by
  unfold readyAt
  cases ho : ops[i]? with
  | none => simp
  | some o =>
    simp only [Bool.and_eq_true, Bool.not_eq_true', List.contains_eq_mem, decide_eq_false_iff_not, List.all_eq_true, Array.mem_toList_iff, Bool.or_eq_true, decide_eq_true_eq, Option.some.injEq, exists_eq_left']
    constructor
    · rintro ⟨h1, h2⟩
      exact ⟨h1, fun e he hb => (h2 e he).resolve_left (by simp [hb])⟩
    · rintro ⟨h1, h2⟩
      refine ⟨h1, fun e he => ?_⟩
      cases hb : Region.binds .any e
      · exact .inl rfl
      · exact .inr (h2 e he hb)

/-- Each one's predecessors stand ahead of it. -/
def Topo (ops : Array Oper) : List Nat → Prop
  | [] => True
  | i :: d => readyAt ops d i = true ∧ Topo ops d

theorem Topo.pred : ∀ {done : List Nat}, Topo ops done → ∀ {d p : Nat}, d ∈ done → waits ops d p = true → p ∈ done
  | i :: r, h, d, p, hd, hw => by
    cases hd with
    | head =>
      obtain ⟨o, ho, _, h2⟩ := readyAt_spec.1 h.1
      obtain ⟨o', ho', e, he, hb, hon⟩ := waits_spec.1 hw
      rw [ho] at ho'; cases ho'
      exact List.mem_cons_of_mem _ (hon ▸ h2 e he hb)
    | tail _ hd => exact List.mem_cons_of_mem _ (h.2.pred hd hw)

theorem dstIs_spec {i : Nat} {t : Tmp} : dstIs ops i t = true ↔ ∃ o, ops[i]? = some o ∧ o.dst = some t := by
  unfold dstIs
  cases ho : ops[i]? with
  | none => simp
  | some o => simp
theorem looksB_spec {i : Nat} {t : Tmp} : looksB ops i t = true ↔ ∃ o, ops[i]? = some o ∧ t ∈ o.looksAt ops := by
  unfold looksB
  cases ho : ops[i]? with
  | none => simp
  | some o => simp

theorem pair1 {d j : Nat} (h : pairOk ops d j = true) {t : Tmp} (hd : dstIs ops d t = true) (hl : looksB ops j t = true) : j ≠ d ∧ waits ops j d = true := by
  obtain ⟨o, ho, hdst⟩ := dstIs_spec.1 hd
  simp only [pairOk, ho, Option.bind_some, hdst, hl, Bool.not_true, Bool.false_or, Bool.and_eq_true, bne_iff_ne, ne_eq] at h
  exact h.1
theorem pair3 {d j : Nat} (h : pairOk ops d j = true) {t : Tmp} (hd : dstIs ops d t = true) (hj : dstIs ops j t = true) (hne : j ≠ d) : hoistAt ops j = false ∧ waits ops j d = true := by
  obtain ⟨o, ho, hdst⟩ := dstIs_spec.1 hd
  simp only [pairOk, ho, Option.bind_some, hdst, hj, Bool.not_true, Bool.or_false, Bool.and_eq_true, Bool.or_eq_true, beq_iff_eq, Bool.not_eq_true'] at h
  exact h.2.resolve_left hne
theorem pair2 {d j : Nat} (h : pairOk2 ops d j = true) {t : Tmp} (hj : dstIs ops j t = true) (hl : looksB ops d t = true) : hoistAt ops j = true ∨ waits ops d j = true ∨ waits ops j d = true := by
  obtain ⟨o, ho, hdst⟩ := dstIs_spec.1 hj
  simp only [pairOk2, ho, Option.bind_some, hdst, hl, Bool.not_true, Bool.false_or, Bool.or_eq_true] at h
  rcases h with (h | h) | h
  · exact .inl h
  · exact .inr (.inl h)
  · exact .inr (.inr h)

/-- What an operation yielded that the model has not done yet. -/
def Lz (C : Cfg) (ops : Array Oper) (f : Fr) (st : St) (g : Ghost) (n0 : Nat) (nm : Option Nat) (d : Nat) : Prop :=
  ∃ o, ops[d]? = some o ∧
    ((wantedV f ops o = some false ∧ nm = none ∧ ∀ t, o.dst = some t → tget f.t t = .tup []) ∨
     (wantedV f ops o = some true ∧ nm = none ∧ ∃ v, rdOp C st.H (evalO C f) o.op = some v ∧ ∀ t, o.dst = some t → tget f.t t = v) ∨
     (wantedV f ops o = some true ∧ nm = none ∧ ∃ v m, alOp C m (evalO C f) o.op = some (v, none) ∧ ∀ t, o.dst = some t → tget f.t t = v) ∨
     (wantedV f ops o = some true ∧ ∃ v ob m, nm = some m ∧ alOp C m (evalO C f) o.op = some (v, some ob) ∧ hget st.H m = some ob ∧ m < st.n ∧ n0 ≤ m ∧ g.κ m = none ∧ g.θ m = none ∧ ∀ t, o.dst = some t → tget f.t t = v))

structure Inv (C : Cfg) (ops : Array Oper) (N n0 : Nat) (w0 : W0) (base : Nat) (listed : Array Bool) (done : List Nat) (f : Fr) (st : St) (a : Act) (w : World) (g : Ghost) (nm : Nat → Option Nat) : Prop where
  size : listed.size = ops.size
  sub : ∀ i, listed.getD i false = true → i ∈ done
  closed : ∀ j i, listed.getD j false = true → waits ops j i = true → listed.getD i false = true
  topo : Topo ops done
  pairs : ∀ d ∈ done, hoistAt ops d = true → ∀ j, j < ops.size → pairOk ops d j = true ∧ pairOk2 ops d j = true
  late : ∀ d ∈ done, listed.getD d false = false → hoistAt ops d = true ∧ Lz C ops f st g n0 (nm d) d
  uniq : ∀ d ∈ done, ∀ e ∈ done, listed.getD d false = false → listed.getD e false = false → d ≠ e → ∀ m, nm d = some m → nm e ≠ some m
  gr : GR g st w0 base w
  gl : GlobR C g w0 base
  fr : ∀ t, (∀ d ∈ done, listed.getD d false = false → dstIs ops d t = false) → VR g (tget f.t t) (a.tmps.getD t undef)
  dr : DR g f.d a.defers
  tm : a.tmps.size = N
  n0le : n0 ≤ st.n

theorem lt_of_at {ops : Array Oper} {i : Nat} {o : Oper} (h : ops[i]? = some o) : i < ops.size := (Array.getElem?_eq_some_iff.1 h).1
theorem mem_of_at {ops : Array Oper} {i : Nat} {o : Oper} (h : ops[i]? = some o) : o ∈ ops.toList := by rw [← Array.getElem?_toList] at h; exact List.mem_of_getElem? h

/-- Another frame and heap, as far as an operation goes. -/
theorem Lz.keep {f f' : Fr} {st st' : St} {g g' : Ghost} {nm : Option Nat} {d : Nat} (h : Lz C ops f st g n0 nm d)
    (hf : ∀ o, ops[d]? = some o → (∀ t ∈ o.looksAt ops, tget f'.t t = tget f.t t) ∧ ∀ t, o.dst = some t → tget f'.t t = tget f.t t)
    (hH : ∀ b o, hget st.H b = some o → hget st'.H b = some o) (hn : st.n ≤ st'.n) (hg : ∀ m, nm = some m → g.κ m = none → g.θ m = none → m < st.n → g'.κ m = none ∧ g'.θ m = none) : Lz C ops f' st' g' n0 nm d := by
  obtain ⟨o, ho, h⟩ := h
  obtain ⟨h1, h2⟩ := hf o ho
  refine ⟨o, ho, ?_⟩
  rw [wantedV_same h1, rdOp_congr (evalO_same (C := C) h1)]
  rcases h with ⟨a, b, c⟩ | ⟨a, b, v, c, e⟩ | ⟨a, b, v, m, c, e⟩ | ⟨a, v, ob, m, b, c, e, i, j, k, l, q⟩
  · exact .inl ⟨a, b, fun t ht => (h2 t ht).trans (c t ht)⟩
  · exact .inr (.inl ⟨a, b, v, rdOp_mono hH c, fun t ht => (h2 t ht).trans (e t ht)⟩)
  · exact .inr (.inr (.inl ⟨a, b, v, m, by rw [alOp_congr (evalO_same (C := C) h1)]; exact c, fun t ht => (h2 t ht).trans (e t ht)⟩))
  · obtain ⟨k', l'⟩ := hg m b k l i
    exact .inr (.inr (.inr ⟨a, v, ob, m, b, by rw [alOp_congr (evalO_same (C := C) h1)]; exact c, hH _ _ e, by omega, j, k', l', fun t ht => (h2 t ht).trans (q t ht)⟩))

/-- Behind a write: what hangs on no memory stays; the rest was looked at. -/
theorem Lz.write {f f' : Fr} {st st' : St} {g g' : Ghost} {nm : Option Nat} {d : Nat} (h : Lz C ops f st g n0 nm d)
    (hf : ∀ o, ops[d]? = some o → (∀ t ∈ o.looksAt ops, tget f'.t t = tget f.t t) ∧ ∀ t, o.dst = some t → tget f'.t t = tget f.t t)
    (hs : ∀ o, ops[d]? = some o → heapDep o.op = true → stillOk C f' st' ops d = true) (hn : st.n ≤ st'.n) (hg : ∀ m, m < st.n → g'.κ m = g.κ m ∧ g'.θ m = g.θ m) : Lz C ops f' st' g' n0 nm d := by
  obtain ⟨o, ho, h⟩ := h
  obtain ⟨h1, h2⟩ := hf o ho
  refine ⟨o, ho, ?_⟩
  have hev := evalO_same (C := C) h1
  rw [wantedV_same h1]
  by_cases hh : heapDep o.op = true
  · -- it was looked at
    have hst := hs o ho hh
    unfold stillOk at hst
    rw [ho] at hst
    simp only [wantedV_same h1] at hst
    rcases h with ⟨a, b, c⟩ | ⟨a, b, v, c, e⟩ | ⟨a, b, v, m, c, e⟩ | ⟨a, v, ob, m, b, c, e, i, j, k, l, q⟩
    · exact .inl ⟨a, b, fun t ht => (h2 t ht).trans (c t ht)⟩
    · rw [a] at hst
      split at hst
      · rename_i dd _ hdd
        split at hst
        · rename_i u hu
          have := sameV_eq hst
          refine .inr (.inl ⟨a, b, u, hu, fun t ht => ?_⟩)
          rw [hdd] at ht; cases ht
          exact this.symm
        · have hal : ∀ n, alOp C n (evalO C f') o.op = none := fun n => by rw [alOp_congr hev]; exact rd_al_disj c
          split at hst <;> first
            | (rw [hal] at hst; cases hst; done)
            | (cases hst; done)
      · rename_i hx; cases hx
      · cases hst
    · exact .inr (.inr (.inl ⟨a, b, v, m, by rw [alOp_congr hev]; exact c, fun t ht => (h2 t ht).trans (e t ht)⟩))
    · obtain ⟨k', l'⟩ := hg m i
      have hmn := al_name c
      rw [a] at hst
      split at hst
      · rename_i dd _ hdd
        have hv : tget f'.t dd = v := (h2 dd hdd).trans (q dd hdd)
        have hcal : alOp C m (evalO C f') o.op = some (v, some ob) := by rw [alOp_congr hev]; exact c
        split at hst
        · rename_i u hu
          have := rd_al_disj (n := m) hu
          rw [hcal] at this; cases this
        · have key : hget st'.H m = some ob := by
            rw [hv] at hst
            split at hst <;> simp only [nameOf, Option.some.injEq, reduceCtorEq] at hmn <;> (first | (subst hmn) | skip)
            all_goals first
              | (rw [hcal] at hst
                 simp only [Bool.and_eq_true] at hst
                 obtain ⟨_, h4⟩ := hst
                 split at h4
                 · rename_i ob' hob'; rw [sameOb_eq h4]; exact hob'
                 · cases h4)
              | (cases hst; done)
          exact .inr (.inr (.inr ⟨a, v, ob, m, b, hcal, key, by omega, j, k'.trans k, l'.trans l, fun t ht => (h2 t ht).trans (q t ht)⟩))
      · rename_i hx; cases hx
      · cases hst
  · have hh' : heapDep o.op = false := by simpa using hh
    rcases h with ⟨a, b, c⟩ | ⟨a, b, v, c, e⟩ | ⟨a, b, v, m, c, e⟩ | ⟨a, v, ob, m, b, c, _⟩
    · exact .inl ⟨a, b, fun t ht => (h2 t ht).trans (c t ht)⟩
    · exact .inr (.inl ⟨a, b, v, by rw [rdOp_congr hev, rdOp_noheap (H' := st.H) hh']; exact c, fun t ht => (h2 t ht).trans (e t ht)⟩)
    · exact .inr (.inr (.inl ⟨a, b, v, m, by rw [alOp_congr hev]; exact c, fun t ht => (h2 t ht).trans (e t ht)⟩))
    · exact absurd (alOp_noheap hh' c).1 (by simp)

theorem tget_put_ne {f : Fr} {dst : Option Tmp} {v : V} {t : Tmp} (h : dst ≠ some t) : tget (f.put dst v).t t = tget f.t t := by
  cases dst with
  | none => rfl
  | some d => simp only [Fr.put, tget_tset]; rw [if_neg]; intro e; exact h (by rw [e])
theorem tget_put_eq {f : Fr} {t : Tmp} {v : V} : tget (f.put (some t) v).t t = v := by simp only [Fr.put, tget_tset, if_true]
theorem put_d (f : Fr) (dst : Option Tmp) (v : V) : (f.put dst v).d = f.d := by cases dst <;> rfl
theorem put_defs (a : Act) (dst : Option Tmp) (v : Value) : (a.put dst v).defers = a.defers := by cases dst <;> rfl

theorem getD_listed_ne {listed : Array Bool} {i j : Nat} (h : i ≠ j) : (listed.setIfInBounds i true).getD j false = listed.getD j false := getD_set_ne false h
theorem getD_listed_eq {listed : Array Bool} {i : Nat} (h : i < listed.size) : (listed.setIfInBounds i true).getD i false = true := by simp [h]

variable {listed : Array Bool} {done : List Nat} {f : Fr} {st : St} {a : Act} {w : World} {g : Ghost} {nm : Nat → Option Nat}

theorem Inv.dst_lt (h : Inv C ops N n0 w0 base listed done f st a w g nm) (hall : opsOk N ops = true) {i : Nat} {o : Oper} (ho : ops[i]? = some o) {d : Tmp} (hd : o.dst = some d) : d < a.tmps.size := by
  rw [h.tm]; exact opsOk_dst hall (mem_of_at ho) hd

/-- The evaluator goes ahead by an operation that changes no memory. -/
theorem Inv.ahead (h : Inv C ops N n0 w0 base listed done f st a w g nm) {i : Nat} {o : Oper} (ho : ops[i]? = some o) (hr : readyAt ops done i = true) (hh : hoistAt ops i = true) (hp : ∀ j, j < ops.size → pairOk ops i j = true ∧ pairOk2 ops i j = true)
    {v : V} {st' : St} {n' : Option Nat} (hst : st' = st ∨ ∃ ob, st' = st.add (some ob))
    (hv : (wantedV f ops o = some false ∧ v = .tup [] ∧ st' = st ∧ n' = none) ∨ (wantedV f ops o = some true ∧ ((rdOp C st.H (evalO C f) o.op = some v ∧ st' = st ∧ n' = none) ∨ (∃ ob, alOp C st.n (evalO C f) o.op = some (v, ob) ∧ st' = st.add ob ∧ n' = ob.map fun _ => st.n)))) :
    Inv C ops N n0 w0 base listed (i :: done) (f.put o.dst v) st' a w g (fun d => if d = i then n' else nm d) := by
  have hi : i ∉ done := (readyAt_spec.1 hr).choose_spec.2.1
  have hil : listed.getD i false = false := by
    cases hl : listed.getD i false with
    | false => rfl
    | true => exact absurd (h.sub i hl) hi
  have hlt := lt_of_at ho
  have hH : ∀ b ob, hget st.H b = some ob → hget st'.H b = some ob := by
    intro b ob hb
    rcases hst with rfl | ⟨ob', rfl⟩
    · exact hb
    · have := h.gr.top _ (hget_mem hb)
      simp only [St.add, hget]
      rw [if_neg (by simp at this ⊢; omega)]
      exact hb
  have hn : st.n ≤ st'.n := by
    rcases hst with rfl | ⟨ob', rfl⟩
    · exact Nat.le_refl _
    · simp [St.add]
  -- its own operands are not what it writes
  have own : ∀ t ∈ o.looksAt ops, tget (f.put o.dst v).t t = tget f.t t := fun t ht => tget_put_ne fun hd => by
    have := pair1 (hp i hlt).1 (dstIs_spec.2 ⟨o, ho, hd⟩) (looksB_spec.2 ⟨o, ho, ht⟩)
    exact this.1 rfl
  have old : ∀ d ∈ done, hoistAt ops d = true → ∀ p, ops[d]? = some p → (∀ t ∈ p.looksAt ops, tget (f.put o.dst v).t t = tget f.t t) ∧ ∀ t, p.dst = some t → tget (f.put o.dst v).t t = tget f.t t := by
    intro d hd hhd p hpd
    have hne : d ≠ i := fun e => hi (e ▸ hd)
    refine ⟨fun t ht => tget_put_ne fun hdst => ?_, fun t ht => tget_put_ne fun hdst => ?_⟩
    · have := pair1 (hp d (lt_of_at hpd)).1 (dstIs_spec.2 ⟨o, ho, hdst⟩) (looksB_spec.2 ⟨p, hpd, ht⟩)
      exact hi (h.topo.pred hd this.2)
    · have := pair3 (hp d (lt_of_at hpd)).1 (dstIs_spec.2 ⟨o, ho, hdst⟩) (dstIs_spec.2 ⟨p, hpd, ht⟩) hne
      rw [hhd] at this; cases this.1
  refine ⟨h.size, fun j hj => List.mem_cons_of_mem _ (h.sub j hj), h.closed, ⟨hr, h.topo⟩, ?_, ?_, ?_, ?_, h.gl, ?_, by rw [put_d]; exact h.dr, h.tm, Nat.le_trans h.n0le hn⟩
  · intro d hd hhd
    cases hd with
    | head => exact hp
    | tail _ hd => exact h.pairs d hd hhd
  · intro d hd hu
    cases hd with
    | head =>
      refine ⟨hh, ?_⟩
      simp only [if_true]
      refine ⟨o, ho, ?_⟩
      rw [wantedV_same own]
      have hev := evalO_same (C := C) own
      have hown : ∀ t, o.dst = some t → tget (f.put o.dst v).t t = v := fun t ht => by rw [ht]; exact tget_put_eq
      rcases hv with ⟨a1, rfl, rfl, rfl⟩ | ⟨a1, ⟨b1, rfl, rfl⟩ | ⟨ob, b1, rfl, rfl⟩⟩
      · exact .inl ⟨a1, rfl, hown⟩
      · exact .inr (.inl ⟨a1, rfl, v, by rw [rdOp_congr hev]; exact b1, hown⟩)
      · cases ob with
        | none => exact .inr (.inr (.inl ⟨a1, rfl, v, st.n, by rw [alOp_congr hev]; exact b1, hown⟩))
        | some ob =>
          have hl := h.gr.lim st.n (Nat.le_refl _)
          exact .inr (.inr (.inr ⟨a1, v, ob, st.n, rfl, by rw [alOp_congr hev]; exact b1, by simp [St.add, hget], by simp [St.add], h.n0le, hl.1, hl.2, hown⟩))
    | tail _ hd =>
      have hne : d ≠ i := fun e => hi (e ▸ hd)
      simp only [hne, if_false]
      obtain ⟨k1, k2⟩ := h.late d hd hu
      exact ⟨k1, k2.keep (old d hd k1) hH hn (fun m _ x y _ => ⟨x, y⟩)⟩
  · have lt : ∀ d ∈ done, listed.getD d false = false → ∀ m, nm d = some m → m < st.n := by
      intro d hd hu m hm
      obtain ⟨_, p, _, k⟩ := h.late d hd hu
      rcases k with ⟨_, b, _⟩ | ⟨_, b, _⟩ | ⟨_, b, _⟩ | ⟨_, v, ob, m', b, _, _, i1, _⟩
      · rw [hm] at b; cases b
      · rw [hm] at b; cases b
      · rw [hm] at b; cases b
      · rw [hm] at b; cases b; exact i1
    have new : ∀ m, n' = some m → m = st.n := by
      intro m hm
      rcases hv with ⟨_, _, _, rfl⟩ | ⟨_, ⟨_, _, rfl⟩ | ⟨ob, _, _, rfl⟩⟩
      · cases hm
      · cases hm
      · cases ob <;> cases hm; rfl
    intro d hd e he hdu heu hne m hm hm2
    cases hd with
    | head =>
      cases he with
      | head => exact hne rfl
      | tail _ he =>
        have hei : e ≠ i := fun x => hi (x ▸ he)
        rw [if_pos rfl] at hm
        rw [if_neg hei] at hm2
        have := lt e he heu m hm2
        have := new m hm
        omega
    | tail _ hd =>
      have hdi : d ≠ i := fun x => hi (x ▸ hd)
      rw [if_neg hdi] at hm
      cases he with
      | head =>
        rw [if_pos rfl] at hm2
        have := lt d hd hdu m hm
        have := new m hm2
        omega
      | tail _ he =>
        have hei : e ≠ i := fun x => hi (x ▸ he)
        rw [if_neg hei] at hm2
        exact h.uniq d hd e he hdu heu hne m hm hm2
  · rcases hst with rfl | ⟨ob', rfl⟩
    · exact h.gr
    · exact h.gr.add _
  · intro t ht
    have hdi := ht i List.mem_cons_self hil
    have hne : o.dst ≠ some t := fun e => by rw [dstIs_spec.2 ⟨o, ho, e⟩] at hdi; cases hdi
    rw [tget_put_ne hne]
    exact h.fr t fun d hd hu => ht d (List.mem_cons_of_mem _ hd) hu

theorem Inv.looks (h : Inv C ops N n0 w0 base listed done f st a w g nm) {j : Nat} {o : Oper} (ho : ops[j]? = some o) (hpre : ∀ i, waits ops j i = true → listed.getD i false = true) :
    ∀ t ∈ o.looksAt ops, VR g (tget f.t t) (a.tmps.getD t undef) := by
  intro t ht
  refine h.fr t fun d hd hu => ?_
  cases hdt : dstIs ops d t with
  | false => rfl
  | true =>
    have hp := (h.pairs d hd (h.late d hd hu).1 j (lt_of_at ho)).1
    have := hpre d (pair1 hp hdt (looksB_spec.2 ⟨o, ho, ht⟩)).2
    rw [hu] at this; cases this

theorem Inv.guard_lt (h : Inv C ops N n0 w0 base listed done f st a w g nm) (hall : opsOk N ops = true) (o : Oper) (i : Nat) (hi : ∃ gw, o.guard = some gw ∧ (ops[gw.1]?).bind (·.dst) = some i) : i < a.tmps.size := by
  rw [h.tm]; exact opsOk_guard hall o i hi

theorem looks_guard {o : Oper} {i : Nat} (hi : ∃ gw, o.guard = some gw ∧ (ops[gw.1]?).bind (·.dst) = some i) : i ∈ o.looksAt ops := by
  obtain ⟨gw, h1, h2⟩ := hi
  obtain ⟨gd, b⟩ := gw
  simp [Oper.looksAt, h1, h2]

/-- The model does what the evaluator did before. -/
theorem Inv.catch_up (hC : COk C) (hall : opsOk N ops = true) (h : Inv C ops N n0 w0 base listed done f st a w g nm) {j : Nat} (hj : j ∈ Region.ready .any ops listed) (hjd : j ∈ done) {Q : Exit → Act → World → Prop} {Kc : Act → World → Prop}
    (hK : ∀ a' w' g', Inv C ops N n0 w0 base (listed.setIfInBounds j true) done f st a' w' g' nm → Ext n0 g g' → Kc a' w') : wpOp C.P ops Q j Kc a w := by
  obtain ⟨hun, o, ho, hpre⟩ := mem_ready.1 hj
  have hlt : j < listed.size := by rw [h.size]; exact lt_of_at ho
  have hunF : listed.getD j false = false := by simpa [hlt] using hun
  have hpre' : ∀ i, waits ops j i = true → listed.getD i false = true := fun i hw => by
    obtain ⟨o', ho', e, he, hb, rfl⟩ := waits_spec.1 hw
    rw [ho] at ho'; cases ho'
    exact hpre e he hb
  have hlooks := h.looks ho hpre'
  obtain ⟨hhj, o', ho', hlz⟩ := h.late j hjd hunF
  rw [ho] at ho'; cases ho'
  -- what is behind it
  have behind : ∀ (v : V) (v' : Value) (w' : World) (g' : Ghost), (∀ t, o.dst = some t → tget f.t t = v) → VR g' v v' → GR g' st w0 base w' → Ext n0 g g' → (∀ d ∈ done, d ≠ j → listed.getD d false = false → ∀ m, nm d = some m → g'.κ m = g.κ m ∧ g'.θ m = g.θ m) →
      Kc (a.put o.dst v') w' := by
    intro v v' w' g' hv hr hG hext hnm
    refine hK _ w' g' ⟨by simpa using h.size, fun i hi => ?_, fun i p hi hp => ?_, h.topo, h.pairs, fun d hd hu => ?_, fun d hd e he hdu heu => ?_, hG, h.gl.mono hext.le, fun t ht => ?_, by rw [put_defs]; exact h.dr.mono hext.le, by rw [size_put]; exact h.tm, h.n0le⟩ hext
    · by_cases hij : j = i
      · subst hij; exact hjd
      · rw [getD_listed_ne hij] at hi; exact h.sub i hi
    · by_cases hij : j = i
      · subst hij; exact getD_set_true (hpre' p hp)
      · rw [getD_listed_ne hij] at hi; exact getD_set_true (h.closed i p hi hp)
    · have hdj : j ≠ d := fun e => by subst e; rw [getD_listed_eq hlt] at hu; cases hu
      rw [getD_listed_ne hdj] at hu
      obtain ⟨k1, k2⟩ := h.late d hd hu
      refine ⟨k1, k2.keep (fun _ _ => ⟨fun _ _ => rfl, fun _ _ => rfl⟩) (fun _ _ x => x) (Nat.le_refl _) (fun m hm x y _ => ?_)⟩
      obtain ⟨z1, z2⟩ := hnm d hd (Ne.symm hdj) hu m hm
      exact ⟨z1.trans x, z2.trans y⟩
    · have hdj : j ≠ d := fun x => by subst x; rw [getD_listed_eq hlt] at hdu; cases hdu
      have hej : j ≠ e := fun x => by subst x; rw [getD_listed_eq hlt] at heu; cases heu
      rw [getD_listed_ne hdj] at hdu
      rw [getD_listed_ne hej] at heu
      exact h.uniq d hd e he hdu heu
    · by_cases hdt : o.dst = some t
      · rw [hdt, getD_put a (h.dst_lt hall ho hdt) v' t, if_pos rfl, hv t hdt]; exact hr
      · have h1 : (a.put o.dst v').tmps.getD t undef = a.tmps.getD t undef := by
          cases hd : o.dst with
          | none => rfl
          | some d => rw [getD_put a (h.dst_lt hall ho hd) v' t, if_neg]; intro e; subst e; exact hdt hd
        rw [h1]
        refine (h.fr t fun d hd hu => ?_).mono hext.le
        by_cases hdj : d = j
        · subst hdj
          cases hx : dstIs ops d t with
          | false => rfl
          | true => obtain ⟨p, hp, hpd⟩ := dstIs_spec.1 hx; rw [ho] at hp; cases hp; exact absurd hpd hdt
        · exact ht d hd (by rw [getD_listed_ne (Ne.symm hdj)]; exact hu)
  unfold wpOp
  rw [ho]
  simp only
  have hw : ∀ b, wantedV f ops o = some b → Region.wanted o (yielded ops a.tmps) = b := fun b hb =>
    wantedV_sound (fun i hi => hlooks i (looks_guard hi)) (fun i hi => h.guard_lt hall o i hi) hb
  have hm := masked_VR (C := C) h.gl hlooks
  rcases hlz with ⟨a1, b1, c1⟩ | ⟨a1, b1, v, c1, e1⟩ | ⟨a1, b1, v, m, c1, e1⟩ | ⟨a1, v, ob, m, b1, c1, e1, i1, j1, k1, l1, q1⟩
  · rw [if_neg (by rw [hw _ a1]; simp)]
    exact behind (.tup []) undef w g c1 (VR_undef g) h.gr (Ext.refl _ _) (fun _ _ _ _ _ _ => ⟨rfl, rfl⟩)
  · rw [if_pos (hw _ a1)]
    rw [rdOp_congr (masked_eq (C := C))] at c1
    obtain ⟨v', h1, h2⟩ := rd_sound hC h.gr hm o c1
    refine .inl ?_
    unfold Oper.wp
    rw [h1, Oper.upon_value]
    exact behind v v' w g e1 h2 h.gr (Ext.refl _ _) (fun _ _ _ _ _ _ => ⟨rfl, rfl⟩)
  · rw [if_pos (hw _ a1)]
    rw [alOp_congr (masked_eq (C := C))] at c1
    obtain ⟨v', w', g', h1, h2, h3, h4, h5⟩ := al_sound h.gr hm o c1 (fun x hx => by cases hx)
    refine .inl ?_
    unfold Oper.wp
    rw [h1, Oper.upon_value]
    exact behind v v' w' g' e1 h3 h4 ⟨h2, fun i _ => h5 i (.inr rfl)⟩ (fun _ _ _ _ m _ => h5 m (.inr rfl))
  · rw [if_pos (hw _ a1)]
    rw [alOp_congr (masked_eq (C := C))] at c1
    obtain ⟨v', w', g', h1, h2, h3, h4, h5⟩ := al_sound h.gr hm o c1 (fun x hx => by cases hx; exact ⟨e1, i1, k1, l1⟩)
    refine .inl ?_
    unfold Oper.wp
    rw [h1, Oper.upon_value]
    refine behind v v' w' g' q1 h3 h4 ⟨h2, fun i hi => h5 i (.inl (by omega))⟩ (fun d hd hdj hu m' hm' => h5 m' (.inl fun e => ?_))
    subst e
    exact h.uniq d hd j hjd hu hunF hdj _ hm' b1

end
end Go.Vm
