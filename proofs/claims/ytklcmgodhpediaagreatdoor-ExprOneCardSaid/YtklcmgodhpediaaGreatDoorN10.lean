/- The evaluator: regions, code, calls. -/
import Derived.Test.YtklcmgodhpediaaGreatDoorN1
import Derived.Orders
set_option linter.unusedVariables false
namespace Go.Vm
open Go

mutual
/-- The same value? -/
def sameV : V → V → Bool
  | .any, .any => true
  | .bool a, .bool b => a == b
  | .int k a, .int k' b => decide (k = k') && a == b
  | .str a, .str b => a == b
  | .ptr a b, .ptr c d => a == c && b == d
  | .cptr a, .cptr b => sameVs a b
  | .nilptr, .nilptr => true
  | .sl t a, .sl u b => decide (t = u) && sameVs a b
  | .msl a b c x, .msl d e f y => a == d && b == e && c == f && x == y
  | .map a, .map b => a == b
  | .nilmap, .nilmap => true
  | .func f a b, .func g c d => decide (f = g) && sameVs a c && sameVs b d
  | .nilfunc, .nilfunc => true
  | .iface t a, .iface u b => t == u && sameV a b
  | .niliface, .niliface => true
  | .agg a, .agg b => sameVs a b
  | .tup a, .tup b => sameVs a b
  | _, _ => false
def sameVs : List V → List V → Bool
  | [], [] => true
  | a :: as, b :: bs => sameV a b && sameVs as bs
  | _, _ => false
end

mutual
theorem sameV_eq : ∀ {a b : V}, sameV a b = true → a = b
  | .any, b, h => by cases b <;> simp_all [sameV]
  | .bool a, b, h => by cases b <;> simp_all [sameV]
  | .int k a, b, h => by cases b <;> simp_all [sameV]
  | .str a, b, h => by cases b <;> simp_all [sameV]
  | .ptr a c, b, h => by cases b <;> simp_all [sameV]
  | .cptr a, b, h => by cases b <;> simp [sameV] at h; rw [sameVs_eq h]
  | .nilptr, b, h => by cases b <;> simp_all [sameV]
  | .sl t a, b, h => by cases b <;> simp [sameV] at h; rw [h.1, sameVs_eq h.2]
  | .msl a c d x, b, h => by cases b <;> simp_all [sameV]
  | .map a, b, h => by cases b <;> simp_all [sameV]
  | .nilmap, b, h => by cases b <;> simp_all [sameV]
  | .func f a c, b, h => by cases b <;> simp [sameV] at h; rw [h.1.1, sameVs_eq h.1.2, sameVs_eq h.2]
  | .nilfunc, b, h => by cases b <;> simp_all [sameV]
  | .iface t a, b, h => by cases b <;> simp [sameV] at h; rw [h.1, sameV_eq h.2]
  | .niliface, b, h => by cases b <;> simp_all [sameV]
  | .agg a, b, h => by cases b <;> simp [sameV] at h; rw [sameVs_eq h]
  | .tup a, b, h => by cases b <;> simp [sameV] at h; rw [sameVs_eq h]
theorem sameVs_eq : ∀ {a b : List V}, sameVs a b = true → a = b
  | [], b, h => by cases b <;> simp_all [sameVs]
  | a :: as, b, h => by
    cases b with
    | nil => simp [sameVs] at h
    | cons b bs => simp only [sameVs, Bool.and_eq_true] at h; rw [sameV_eq h.1, sameVs_eq h.2]
end

mutual
theorem sameV_refl : ∀ a : V, sameV a a = true
  | .any => rfl
  | .bool a => by simp [sameV]
  | .int k a => by simp [sameV]
  | .str a => by simp [sameV]
  | .ptr a c => by simp [sameV]
  | .cptr a => by simp [sameV, sameVs_refl a]
  | .nilptr => rfl
  | .sl t a => by simp [sameV, sameVs_refl a]
  | .msl a c d x => by simp [sameV]
  | .map a => by simp [sameV]
  | .nilmap => rfl
  | .func f a c => by simp [sameV, sameVs_refl a, sameVs_refl c]
  | .nilfunc => rfl
  | .iface t a => by simp [sameV, sameV_refl a]
  | .niliface => rfl
  | .agg a => by simp [sameV, sameVs_refl a]
  | .tup a => by simp [sameV, sameVs_refl a]
theorem sameVs_refl : ∀ a : List V, sameVs a a = true
  | [] => rfl
  | a :: as => by simp [sameVs, sameV_refl a, sameVs_refl as]
end

def sameOb : Ob → Ob → Bool
  | .cells a, .cells b => sameVs a b
  | .map [], .map [] => true
  | .tip a, .tip b => a == b
  | _, _ => false

theorem sameOb_eq {a b : Ob} (h : sameOb a b = true) : a = b := by
  unfold sameOb at h
  split at h
  · rw [sameVs_eq h]
  · rfl
  · simp at h; rw [h]
  · cases h

theorem sameOb_refl_cells (a : List V) : sameOb (.cells a) (.cells a) = true := sameVs_refl a

/-! ### Regions whose order is open -/
/-- Operations that change no memory. -/
def hoist : Op → Bool
  | .move _ | .assign _ | .pick .. | .build .. | .load .. | .nilCheck _ | .binOp .. | .unOp .. | .convert .. | .makeInterface .. | .makeFunc .. | .slice _ _ _ _ .none | .fieldAddr .. | .field .. | .indexAddr .. | .index ..
  | .lookup .. | .extract .. | .alloc _ | .box .. | .buildSlice .. | .makeMap _ .none | .makeSlice .. => true
  | .call { callee := .builtin .len, .. } => true
  | _ => false

/-- Operations whose answers hang on memory that may change, or that give a name to new memory. -/
def heapDep : Op → Bool
  | .load .. | .lookup .. | .convert .. | .alloc _ | .box .. | .makeMap .. | .makeSlice .. => true
  | .call { callee := .builtin .len, .. } => true
  | _ => false

/-- Other operations that may stand in such a region. -/
def mayWrite : Op → Bool
  | .store .. | .mapUpdate .. | .insert .. | .call _ => true
  | _ => false

/-- Does operation j wait for operation i? -/
def waits (ops : Array Oper) (j i : Nat) : Bool :=
  match ops[j]? with
  | .some o => o.after.toList.any fun e => Region.binds .any e && e.on == i
  | .none => false

/-- The operations that operation j waits for, at once. -/
def predsL (ops : Array Oper) (j : Nat) : List Nat :=
  match ops[j]? with
  | .some o => (o.after.toList.filter fun e => Region.binds .any e).map (·.on)
  | .none => []
def closeP (ops : Array Oper) : Nat → List Nat → List Nat
  | 0, S => S
  | m + 1, S => closeP ops m (if S.contains m then predsL ops m ++ S else S)
/-- All operations that operation i waits for. -/
def beforeL (ops : Array Oper) (i : Nat) : List Nat := closeP ops ops.size (predsL ops i)

def readyAt (ops : Array Oper) (done : List Nat) (i : Nat) : Bool :=
  match ops[i]? with
  | .some o => !done.contains i && o.after.toList.all fun e => !Region.binds .any e || done.contains e.on
  | .none => false

def dstIs (ops : Array Oper) (i : Nat) (t : Tmp) : Bool :=
  match ops[i]? with
  | .some o => o.dst == .some t
  | .none => false
def looksB (ops : Array Oper) (i : Nat) (t : Tmp) : Bool :=
  match ops[i]? with
  | .some o => (o.looksAt ops).contains t
  | .none => false

/-- Does an operation write a temporary that another one reads, who does not wait for it? -/
def lateAt (ops : Array Oper) (i : Nat) : Bool :=
  match (ops[i]?).bind (·.dst) with
  | .some t => (List.range ops.size).any fun j => looksB ops j t && !waits ops j i
  | .none => false

/-- Operations that may be done as early as they can. -/
def hoistAt (ops : Array Oper) (i : Nat) : Bool :=
  match ops[i]? with
  | .some o => hoist o.op && !lateAt ops i
  | .none => false

/-- An order: what changes no memory as early as it may. -/
def planGo (ops : Array Oper) : Nat → List Nat → List Nat
  | 0, _ => []
  | k + 1, done =>
    match (List.range ops.size).filter (readyAt ops done) with
    | [] => []
    | r :: rs =>
      let i := ((r :: rs).find? (hoistAt ops)).getD r
      i :: planGo ops k (i :: done)
def plan (ops : Array Oper) : List Nat := planGo ops ops.size []

/-- Operation d (that changes no memory) beside operation j. -/
def pairOk (ops : Array Oper) (d j : Nat) : Bool :=
  match (ops[d]?).bind (·.dst) with
  | .some t =>
    (!looksB ops j t || (j != d && waits ops j d)) && (j == d || !dstIs ops j t || (!hoistAt ops j && waits ops j d))
  | .none => true
def pairOk2 (ops : Array Oper) (d j : Nat) : Bool :=
  match (ops[j]?).bind (·.dst) with
  | .some t => !looksB ops d t || hoistAt ops j || waits ops d j || waits ops j d
  | .none => true

/-- May an order be taken for all orders? -/
def planOk (ops : Array Oper) : List Nat → List Nat → Bool
  | done, [] => (List.range ops.size).all done.contains
  | done, i :: rest =>
    readyAt ops done i && decide (i < ops.size) &&
    (if hoistAt ops i then (List.range ops.size).all fun j => pairOk ops i j && pairOk2 ops i j
     else (match ops[i]? with | .some o => hoist o.op || mayWrite o.op | .none => false) && rest.all fun j => match ops[j]? with
        | .some o => o.after.toList.any fun e => Region.binds .any e && !done.contains e.on
        | .none => false) &&
    planOk ops (i :: done) rest

variable (C : Cfg)

/-- Is what an operation yielded still so? -/
def stillOk (f : Fr) (st : St) (ops : Array Oper) (i : Nat) : Bool :=
  match ops[i]? with
  | .none => false
  | .some o =>
    match wantedV f ops o, o.dst with
    | .some true, .some d =>
      match rdOp C st.H (evalO C f) o.op with
      | .some v => sameV v (tget f.t d)
      | .none =>
        match tget f.t d with
        | .ptr n 0 | .map n | .msl n 0 _ _ | .sl (.own n) _ =>
          match alOp C n (evalO C f) o.op with
          | .some (v, .some ob) =>
            sameV v (tget f.t d) && match hget st.H n with
              | .some ob' => sameOb ob ob'
              | .none => false
          | _ => false
        | _ => false
    | .some false, _ => true
    | _, _ => false

/-- Operations in an order; behind one that may change memory, what others ahead yielded that do not have to be done before it is to be so still. -/
def runPlan (K : FuncId → List V → St → Option (V × St)) (ops : Array Oper) : List Nat → List Nat → Fr → St → Option (Fr × St)
  | _, [], f, st => .some (f, st)
  | done, i :: rest, f, st =>
    match ops[i]? with
    | .none => .none
    | .some o =>
      match wantedV f ops o with
      | .some false => runPlan K ops (i :: done) rest (f.put o.dst (.tup [])) st
      | .none => .none
      | .some true =>
        if hoistAt ops i then
          match quietOp C f st o.op with
          | .some (v, st') => runPlan K ops (i :: done) rest (f.put o.dst v) st'
          | .none => .none
        else
          match (if hoist o.op then quietOp C f st o.op else wrOp C K (evalO C f) st o.op) with
          | .some (v, st') =>
            if (done.filter fun d => !(beforeL ops i).contains d && hoistAt ops d && (match ops[d]? with | .some p => heapDep p.op | .none => false)).all (stillOk C (f.put o.dst v) st' ops) = true
            then runPlan K ops (i :: done) rest (f.put o.dst v) st' else .none
          | .none => .none

/-- A type of rows of bytes. -/
def bytesT (t : TypeId) : Bool :=
  match C.P.underlying t with
  | .some (.slice e) => isU8 C e
  | _ => false

/-- Bytes of a constant text: a row, and its conversion to its own type. -/
def pairV (f : Fr) : List Oper → Option (Fr × List Oper)
  | o :: o2 :: rest =>
    match o.op, o2.op, o.dst, o2.dst, o.guard, o2.guard with
    | .buildSlice t len parts, .convert s s2 (.tmp x), .some d, .some d2, .none, .none =>
      if x = d ∧ s = t ∧ s2 = t ∧ bytesT C t = true then
        (buildSliceV C t len (parts.toList.map fun (i, x) => (i, evalO C f x))).map fun v => ((f.put (.some d) v).put (.some d2) v, rest)
      else .none
    | _, _, _, _, _, _ => .none
  | _ => .none

def runRegion (K : FuncId → List V → St → Option (V × St)) (ops : Array Oper) (draw : Bool) (f : Fr) (st : St) : Option (Fr × St) :=
  if draw then
    if planOk ops [] (plan ops) = true then runPlan C K ops [] (plan ops) f st else .none
  else
    match pairV C f ops.toList with
    | .some (f', rest) => runOps C K ops rest f' st
    | .none => runOps C K ops ops.toList f st

/-! ### Code -/
inductive Ex where
  | normal
  | ret
  | exit (id : Nat)
  | goto (l : Nat)
  deriving DecidableEq

mutual
def exec (K : FuncId → List V → St → Option (V × St)) : Nat → Code → Fr → St → Option (Ex × Fr × St)
  | 0, _, _, _ => .none
  | n + 1, c, f, st =>
    match c with
    | .skip | .label _ => .some (.normal, f, st)
    | .ret => .some (.ret, f, st)
    | .exit id => .some (.exit id, f, st)
    | .goto l => .some (.goto l, f, st)
    | .region _ ops draw => (runRegion C K ops draw f st).map fun (f', st') => (.normal, f', st')
    | .seq a b =>
      match exec K n a f st with
      | .some (.normal, f', st') => exec K n b f' st'
      | r => r
    | .cond c a b =>
      match evalO C f c with
      | .bool t => exec K n (if t then a else b) f st
      | _ => .none
    | .block id b =>
      match exec K n b f st with
      | .some (.exit id', f', st') => .some (if id' = id then .normal else .exit id', f', st')
      | r => r
    | .loop b =>
      match exec K n b f st with
      | .some (.normal, f', st') => exec K n (.loop b) f' st'
      | r => r
    | .scope b => inScope K n b b f st
    | _ => .none
def inScope (K : FuncId → List V → St → Option (V × St)) : Nat → Code → Code → Fr → St → Option (Ex × Fr × St)
  | 0, _, _, _, _ => .none
  | n + 1, body, c, f, st =>
    match exec K n c f st with
    | .some (.goto l, f', st') =>
      match findLabel body l with
      | .some rest => inScope K n body rest f' st'
      | .none => .some (.goto l, f', st')
    | r => r
end

/-! ### Calls -/
def initT : Nat → List V → List (Nat × V)
  | _, [] => []
  | i, v :: vs => (i, v) :: initT (i + 1) vs

def resultsV (H : List (Nat × Ob)) (t : List (Nat × V)) : List ResultVar → Option (List V)
  | [] => .some []
  | .tmp x :: r => (resultsV H t r).map (tget t x :: ·)
  | .cell a ty :: r =>
    match loadV C H ty (tget t a) with
    | .some v => (resultsV H t r).map (v :: ·)
    | .none => .none

/-- A value whose memory from a name on never changes any more. -/
def frz (n0 : Nat) (H : List (Nat × Ob)) : Nat → V → V
  | 0, v => v
  | k + 1, v =>
    match v with
    | .ptr b off => if n0 ≤ b then (match hget H b with | .some (.cells cs) => .cptr ((cs.drop off).map (frz n0 H k)) | _ => .ptr b off) else .ptr b off
    | .msl b off len cap => if n0 ≤ b then (match hget H b with
        | .some (.cells cs) => if off + len ≤ cs.length then .sl (if cap = len ∧ cap < unk then .full else .none) (((cs.drop off).take len).map (frz n0 H k)) else .msl b off len cap
        | _ => .msl b off len cap) else .msl b off len cap
    | .cptr cs => .cptr (cs.map (frz n0 H k))
    | .sl tip xs => .sl tip (xs.map (frz n0 H k))
    | .func fn fi ca => .func fn (fi.map (frz n0 H k)) (ca.map (frz n0 H k))
    | .iface t x => .iface t (frz n0 H k x)
    | .agg cs => .agg (cs.map (frz n0 H k))
    | .tup cs => .tup (cs.map (frz n0 H k))
    | v => v

def packV : List V → V
  | [v] => v
  | vs => .tup vs

/-- The answer, as the caller has it. -/
def leaveV (f : FuncId) (n0 : Nat) (v : V) (st : St) : V × St :=
  let v := if C.grow f then v else strip v
  if C.keep f then (v, st) else
    let v := if C.frz f then frz n0 st.H st.n v else v
    let H := hdrop n0 st.H
    match v with
    | .sl (.own t) xs =>
      match hget st.H t with
      | .some (.tip sz) => (.sl (.own t) xs, ⟨if n0 ≤ t then (t, .tip sz) :: H else H, st.n⟩)
      | _ => (v, ⟨H, st.n⟩)
    | _ => (v, ⟨H, st.n⟩)

mutual
/-- A value that names no memory of the evaluator's. -/
def pureV : V → Bool
  | .any | .bool _ | .int _ _ | .str _ | .nilptr | .nilmap | .nilfunc | .niliface => true
  | .cptr cs | .agg cs | .tup cs => pureVs cs
  | .sl (.own _) _ => false
  | .sl _ xs => pureVs xs
  | .func _ fi ca => pureVs fi && pureVs ca
  | .iface _ x => pureV x
  | .ptr _ _ | .msl _ _ _ _ | .map _ => false
def pureVs : List V → Bool
  | [] => true
  | v :: vs => pureV v && pureVs vs
end

/-- Forget whose end a slice is. -/
def unownCell : V → V
  | .sl (.own _) xs => .sl .none xs
  | v => v
def unown : V → V
  | .agg cs => .agg (cs.map unownCell)
  | v => unownCell v

/-- The frame at the start. -/
def frame0 (n : Nat) (args : List V) : List (Nat × V) := initT 0 (args ++ List.replicate (n - args.length) .any)

def callF : Nat → FuncId → List V → St → Option (V × St)
  | 0, _, _, _ => .none
  | n + 1, k, args, st =>
    match C.X k args st with
    | .some r => .some r
    | .none =>
      match C.P.funcs[k]? with
      | .none => .none
      | .some fn =>
        match fn.body with
        | .none => .none
        | .some c =>
          if args.length ≤ fn.ntmps then
            if C.pure k = true then
              if pureVs (args.map unown) = true then
                match exec C (callF n) n c ⟨frame0 fn.ntmps (args.map unown), []⟩ ⟨[], 0⟩ with
                | .some (e, f', st') =>
                  if (e = .normal ∨ e = .ret) ∧ f'.d.isEmpty = true then
                    match resultsV C st'.H f'.t fn.results.toList with
                    | .some vs =>
                      let v := (leaveV C k 0 (packV vs) st').1
                      if pureV v = true then .some (v, st) else .none
                    | .none => .none
                  else .none
                | .none => .none
              else .none
            else
            match exec C (callF n) n c ⟨frame0 fn.ntmps args, []⟩ st with
            | .some (e, f', st') =>
              if (e = .normal ∨ e = .ret) ∧ f'.d.isEmpty = true then
                match resultsV C st'.H f'.t fn.results.toList with
                | .some vs => .some (leaveV C k st.n (packV vs) st')
                | .none => .none
              else .none
            | .none => .none
          else .none
end Go.Vm
