/- The operations once more, with the program's types looked up in a table: printed out of SkN1 by mkF1.py. -/
import Derived.Test.YtbgalenfbmaceaaGreatDoorN1
import Derived.Test.YtbgalenfbmaceaaGreatDoorN26
set_option linter.unusedSimpArgs false
set_option linter.unusedVariables false
namespace Go.Vm
open Go
/-- A configuration, and its types as a table. -/
structure Tab where
  und : TypeId → Option TypeDesc
  info : TypeId → Option TypeInfo
  C : Cfg
namespace F
variable (T : Tab)
/-- A type's size in cells. -/
def szOf (t : TypeId) : Option Nat := (T.info t).map (·.size)
def byOf (t : TypeId) : Nat := ((T.info t).map (·.bytes)).getD 0
def zeroV (t : TypeId) : Option V := ((T.info t).bind (·.zero)).map ofVal

/-- The value of type t whose cells begin at a place. -/
def partV (t : TypeId) (cs : List V) (off : Nat) : Option V :=
  match T.und t with
  | .none => .none
  | .some d =>
    if isAggT d then
      match szOf T t with
      | .some s => if off + s ≤ cs.length then .some (.agg ((cs.drop off).take s)) else .none
      | .none => .none
    else cs[off]?

def placesV (fields : List Field) : Option (List (Nat × Nat)) := fields.mapM fun f => (T.info f.type).map fun i => (f.offset, i.size)

def buildV (t : TypeId) (parts : List (Nat × V)) : Option V :=
  match T.und t, zeroV T t with
  | .some (.struct fields), .some (.agg zs) =>
    match placesV T fields.toList with
    | .some places => (fillV (places[·]?) zs parts).map .agg
    | .none => .none
  | .some (.array _ elem), .some (.agg zs) =>
    match szOf T elem with
    | .some s => (fillV (fun i => .some (i * s, s)) zs parts).map .agg
    | .none => .none
  | _, _ => .none

def buildSliceV (t : TypeId) (len : Nat) (parts : List (Nat × V)) : Option V :=
  match T.und t with
  | .some (.slice elem) =>
    match szOf T elem, zeroV T elem with
    | .some s, .some z =>
      if 0 < s ∧ len * s ≤ 2 ^ 24 ∧ isElem z = true ∧ ncells z = s ∧ parts.all (fun p => isElem p.2 && ncells p.2 == s && decide (p.1 < len)) = true
      then .some (.sl .full (setAll (List.replicate len (stripAgg z)) parts)) else .none
    | _, _ => .none
  | _ => .none

/-- Are the fields the same, one behind the other? -/
def eqF (E : TypeId → V → V → Option Bool) : List Field → List V → List V → Option Bool
  | [], _, _ => .some true
  | f :: fs, xs, ys =>
    if f.name = "_" then eqF E fs xs ys else
    match partV T f.type xs f.offset, partV T f.type ys f.offset with
    | .some a, .some b =>
      match E f.type a b with
      | .some true => eqF E fs xs ys
      | .some false => .some false
      | .none => .none
    | _, _ => .none
/-- Are two values of a type the same? -/
def eqT : Nat → TypeId → V → V → Option Bool
  | 0, _, _, _ => .none
  | d + 1, t, x, y =>
    match T.und t with
    | .none => .none
    | .some (.struct fs) =>
      match x, y with
      | .agg xs, .agg ys => if T.C.eqs.contains t then eqF T (eqT d) fs.toList xs ys else .none
      | _, _ => .none
    | .some u => eqU u x y

/-- Are two interfaces' values the same (numbers and texts)? -/
def ifaceEq (tx : TypeId) (vx : V) (ty : TypeId) (vy : V) : Option Bool :=
  if tx = ty then
    match T.info tx, T.und tx, vx, vy with
    | .some i, .some (.int _), .int k a, .int k' b => if i.comparable = true ∧ k = k' then .some (a == b) else .none
    | .some i, .some .string, .str a, .str b => if i.comparable = true then .some (a == b) else .none
    | _, _, _, _ => .none
  else .some false

/-- 'x op y'; nils: whether one of them is the word nil. -/
def binV (nils : Bool) (op : BinOp) (t : TypeId) (x y : V) : Option V :=
  match x, y with
  | .int k a, .int k' b =>
    match op with
    | .shl | .shr => shiftBin op k a b
    | _ => if k = k' then intBin op k a b else .none
  | .str a, .str b => strBin op a b
  | .niliface, .niliface =>
    match T.und t with
    | .some (.interface _) =>
      if nils then
        match op with
        | .eql => .some (.bool true)
        | .neq => .some (.bool false)
        | _ => .none
      else .none
    | _ => .none
  | .iface tx vx, .iface ty vy =>
    match T.und t with
    | .some (.interface _) =>
      match op with
      | .eql => (ifaceEq T tx vx ty vy).map fun r => .bool r
      | .neq => (ifaceEq T tx vx ty vy).map fun r => .bool (!r)
      | _ => .none
    | _ => .none
  | _, _ =>
    match op with
    | .eql => (eqT T 9 t x y).map fun r => .bool r
    | .neq => (eqT T 9 t x y).map fun r => .bool (!r)
    | _ => .none

/-- A type of bytes. -/
def isU8 (t : TypeId) : Bool :=
  match T.und t with
  | .some (.int .u8) => true
  | _ => false

def convV (H : List (Nat × Ob)) (src dst : TypeId) (x : V) : Option V :=
  match T.und src, T.und dst, x with
  | .some _, .some (.int k), .int _ n => .some (.int k (k.wrap n))
  | .some (.slice e), .some .string, .sl _ xs => if isU8 T e = true then (toBytes xs).map .str else .none
  | .some (.slice e), .some .string, .msl b off len _ =>
    match hget H b with
    | .some (.cells cs) => if isU8 T e = true ∧ off + len ≤ cs.length then (toBytes ((cs.drop off).take len)).map .str else .none
    | _ => .none
  | .some _, .some .string, .str s => .some (.str s)
  | .some _, .some .string, .int _ n => if 0 ≤ n ∧ n < 128 then .some (.str [UInt8.ofNat n.toNat]) else .none
  | _, _, _ => .none

def sliceV (t : TypeId) (x : V) (lo hi : Option V) : Option V :=
  match T.und t, x with
  | .some .string, .str s => (boundsV s.length lo hi).map fun (l, h) => .str ((s.take h).drop l)
  | .some (.slice elem), .sl tip xs =>
    match szOf T elem, boundsV xs.length lo hi with
    | .some s, .some (l, h) =>
      if szOk s xs = true ∧ 0 < s then .some (.sl (if h = xs.length ∧ l < h then tip else .none) ((xs.take h).drop l)) else .none
    | _, _ => .none
  | .some (.slice elem), .msl b off len cap =>
    match szOf T elem, boundsV len lo hi with
    | .some s, .some (l, h) => if 0 < s then (if l < h then .some (.msl b (off + l * s) (h - l) (if cap < unk then cap - l else unk)) else .some (.sl .none [])) else .none
    | _, _ => .none
  | .some (.array n elem), .ptr b off =>
    match szOf T elem, boundsV n lo hi with
    | .some s, .some (l, h) => if 0 < s ∧ n < unk then (if l < h then .some (.msl b (off + l * s) (h - l) (n - l)) else .some (.sl .none [])) else .none
    | _, _ => .none
  | _, _ => .none

/-- A slice expression with a third index. -/
def slice3V (t : TypeId) (x : V) (lo : Option V) (hi mx : V) : Option V :=
  match T.und t, bndV lo, asIntV hi, asIntV mx with
  | .some (.slice elem), .some l0, .some h, .some m =>
    match szOf T elem, x with
    | .some s, .sl _ xs =>
      if szOk s xs = true ∧ 0 < s ∧ 0 ≤ l0.getD 0 ∧ l0.getD 0 ≤ h ∧ h ≤ m ∧ m ≤ xs.length then .some (.sl (if h = m then .full else .none) ((xs.take h.toNat).drop (l0.getD 0).toNat)) else .none
    | .some s, .msl b off len _ =>
      if 0 < s ∧ 0 ≤ l0.getD 0 ∧ l0.getD 0 ≤ h ∧ h ≤ m ∧ m ≤ len ∧ m < unk then
        (if l0.getD 0 < h then .some (.msl b (off + (l0.getD 0).toNat * s) (h.toNat - (l0.getD 0).toNat) (m.toNat - (l0.getD 0).toNat)) else .some (.sl (if h = m then .full else .none) [])) else .none
    | _, _ => .none
  | _, _, _, _ => .none

def indexAddrV (t : TypeId) (x ix : V) : Option V :=
  match T.und t, x, ix with
  | .some (.slice elem), .sl _ xs, .int _ i =>
    match szOf T elem with
    | .some s => if 0 ≤ i ∧ 0 < s ∧ szOk s xs = true then
        match xs[i.toNat]? with
        | .some x => (cellsOf x).map .cptr
        | .none => .none
      else .none
    | .none => .none
  | .some (.slice elem), .msl b off len _, .int _ i =>
    match szOf T elem with
    | .some s => if 0 ≤ i ∧ i < len ∧ 0 < s then .some (.ptr b (off + i.toNat * s)) else .none
    | .none => .none
  | .some (.array n elem), .ptr b off, .int _ i =>
    match szOf T elem with
    | .some s => if 0 ≤ i ∧ i < n ∧ 0 < s then .some (.ptr b (off + i.toNat * s)) else .none
    | .none => .none
  | .some (.array n elem), .cptr cs, .int _ i =>
    match szOf T elem with
    | .some s => if 0 ≤ i ∧ i < n ∧ 0 < s ∧ i.toNat * s + s ≤ cs.length then .some (.cptr ((cs.drop (i.toNat * s)).take s)) else .none
    | .none => .none
  | _, _, _ => .none

def indexV (t : TypeId) (x ix : V) : Option V :=
  match T.und t, x, ix with
  | .some .string, .str s, .int _ i => if 0 ≤ i then (s[i.toNat]?).map fun b => .int .u8 b.toNat else .none
  | .some (.array n elem), .agg cs, .int _ i =>
    match szOf T elem with
    | .some s => if 0 ≤ i ∧ i < n ∧ 0 < s then partV T elem cs (i.toNat * s) else .none
    | .none => .none
  | _, _, _ => .none

def fieldV (t : TypeId) (x : V) (i : Nat) : Option V :=
  match T.und t, x with
  | .some (.struct fields), .agg cs =>
    match fields[i]? with
    | .some f => partV T f.type cs f.offset
    | .none => .none
  | _, _ => .none

def fieldAddrV (t : TypeId) (x : V) (i : Nat) : Option V :=
  match T.und t with
  | .some (.struct fields) =>
    match fields[i]? with
    | .some f =>
      match szOf T f.type, x with
      | .some s, .ptr b off => if 0 < s then .some (.ptr b (off + f.offset)) else .none
      | .some s, .cptr cs => if 0 < s ∧ f.offset + s ≤ cs.length then .some (.cptr ((cs.drop f.offset).take s)) else .none
      | _, _ => .none
    | .none => .none
  | _ => .none

def loadV (H : List (Nat × Ob)) (t : TypeId) (a : V) : Option V :=
  match a with
  | .cptr cs => partV T t cs 0
  | .ptr b off =>
    match hget H b with
    | .some (.cells cs) => partV T t cs off
    | _ => .none
  | _ => .none

def makeIfaceV (t : TypeId) (x : V) : Option V :=
  match T.und t with
  | .some (.interface _) => .none
  | .some _ => .some (.iface t x)
  | .none => .none

def lookupV (H : List (Nat × Ob)) (t : TypeId) (x ix : V) (ok : Bool) : Option V :=
  match T.und t with
  | .some (.map key elem) =>
    match T.und key, zeroV T elem with
    | .some kd, .some z =>
      if keyT kd ix = true then
        match (match x with
               | .nilmap => .some .none
               | .map b => match hgetM H b with
                 | .some es => findV ix es
                 | _ => .none
               | _ => .none : Option (Option V)) with
        | .some (.some v) => .some (if ok then .tup [v, .bool true] else v)
        | .some .none => .some (if ok then .tup [z, .bool false] else z)
        | .none => .none
      else .none
    | _, _ => .none
  | _ => .none

def lenV (H : List (Nat × Ob)) (t : TypeId) (x : V) : Option V :=
  match T.und t, x with
  | .some .string, .str s => .some (.int .i64 s.length)
  | .some (.slice _), .sl _ xs => .some (.int .i64 xs.length)
  | .some (.slice _), .msl _ _ len _ => .some (.int .i64 len)
  | .some (.array n _), _ => .some (.int .i64 n)
  | .some (.map _ _), .nilmap => .some (.int .i64 0)
  | .some (.map _ _), .map b =>
    match hgetM H b with
    | .some es => .some (.int .i64 es.length)
    | _ => .none
  | _, _ => .none

/-- What an operation yields that leaves memory alone. -/
def rdOp (H : List (Nat × Ob)) (ρ : Operand → V) : Op → Option V
  | .move x | .assign x => .some (ρ x)
  | .pick c a b =>
    match ρ c with
    | .bool t => .some (if t then ρ a else ρ b)
    | _ => .none
  | .build t parts => buildV T t (parts.toList.map fun (i, x) => (i, ρ x))
  | .load t a => loadV T H t (ρ a)
  | .nilCheck x => nilCheckV (ρ x)
  | .binOp op t x y _ => binV T (isNilWord x || isNilWord y) op t (ρ x) (ρ y)
  | .unOp op _ x => unV op (ρ x)
  | .convert s d x => convV T H s d (ρ x)
  | .makeInterface t x => makeIfaceV T t (ρ x)
  | .makeFunc fn first captured => .some (.func fn (first.toList.map ρ) (captured.toList.map ρ))
  | .slice t x lo hi .none => sliceV T t (ρ x) (lo.map ρ) (hi.map ρ)
  | .slice t x lo (.some hi) (.some mx) => slice3V T t (ρ x) (lo.map ρ) (ρ hi) (ρ mx)
  | .fieldAddr t x i => fieldAddrV T t (ρ x) i
  | .field t x i => fieldV T t (ρ x) i
  | .indexAddr t x ix => indexAddrV T t (ρ x) (ρ ix)
  | .index t x ix => indexV T t (ρ x) (ρ ix)
  | .lookup t x ix ok => lookupV T H t (ρ x) (ρ ix) ok
  | .extract x i =>
    match ρ x with
    | .tup vs => vs[i]?
    | _ => .none
  | .call { callee := .builtin .len, args, argTypes } =>
    match args.toList, argTypes.toList with
    | [x], [t] => lenV T H t (ρ x)
    | _, _ => .none
  | _ => .none

/-- What an operation yields that makes memory, and changes none: the value, and what is made under the next name. -/
def alOp (n : Nat) (ρ : Operand → V) : Op → Option (V × Option Ob)
  | .alloc t => (zeroV T t).bind fun z => (cellsOf z).map fun cs => (.ptr n 0, .some (.cells cs))
  | .box _ x => (cellsOf (ρ x)).map fun cs => (.ptr n 0, .some (.cells cs))
  | .buildSlice t len parts => (buildSliceV T t len (parts.toList.map fun (i, x) => (i, ρ x))).map fun v => (v, .none)
  | .makeMap _ .none => .some (.map n, .some (.map []))
  | .convert s d x =>
    match T.und s, T.und d, ρ x with
    | .some _, .some (.slice e), .str l => if isU8 T e = true ∧ l.length ≤ 2 ^ 47 then .some (.sl (.own n) (ofBytes l), .some (.tip 1)) else .none
    | _, _, _ => .none
  | .makeSlice t l c =>
    match T.und t, ρ l, ρ c with
    | .some (.slice e), .int _ i, .int _ j =>
      match szOf T e, (zeroV T e).bind cellsOf with
      | .some s, .some zs =>
        if 0 ≤ i ∧ i ≤ j ∧ 0 < s ∧ zs.length = s ∧ j * byOf T e ≤ 2 ^ 47 ∧ j < 2 ^ 62 then
          if i = j then .some (.msl n 0 i.toNat i.toNat, .some (.cells (List.replicate i.toNat zs).flatten))
          else if i = 0 then .some (.sl (.own n) [], .some (.tip s)) else .none
        else .none
      | _, _ => .none
    | _, _, _ => .none
  | _ => .none

def storeH (H : List (Nat × Ob)) (t : TypeId) (a x : V) : Option (List (Nat × Ob)) :=
  match a, szOf T t, cellsOf x with
  | .ptr b off, .some s, .some vs =>
    match hget H b with
    | .some (.cells cs) => if vs.length = s ∧ off + vs.length ≤ cs.length then .some (hset H b (.cells (putAt cs off vs))) else .none
    | _ => .none
  | _, _, _ => .none

def mapUpdH (H : List (Nat × Ob)) (t : TypeId) (m k v : V) : Option (List (Nat × Ob)) :=
  match T.und t, m with
  | .some (.map key _), .map b =>
    match T.und key, hgetM H b with
    | .some kd, .some es => if keyT kd k = true then (setMap k v es).map fun es' => hset H b (.map es') else .none
    | _, _ => .none
  | _, _ => .none

/-- A type's zero value has so many cells. -/
def zeroOk (t : TypeId) (s : Nat) : Bool :=
  match zeroV T t with
  | .some z => isElem z && ncells z == s
  | .none => false

/-- append to a slice that may be written. -/
def appendM (st : St) (t : TypeId) (x y : V) : Option (V × St) :=
  match T.und t with
  | .some (.slice elem) =>
    match szOf T elem with
    | .some s =>
      match addedH st.H s y with
      | .some (k, ycs) =>
        if k = 0 then .some (x, st)
        else
          match x with
          | .msl b off len cap =>
            match hget st.H b with
            | .some (.cells cs) =>
              if off = 0 ∧ cap = ownC s ∧ cs.length = len * s ∧ 0 < s ∧ zeroOk T elem s = true ∧ (len + k) * byOf T elem ≤ 2 ^ 47 ∧ len + k ≤ 2 ^ 47 then
                .some (.msl st.n 0 (len + k) (ownC s), ⟨(st.n, .cells (cs ++ ycs.map stripCell)) :: hdel st.H b, st.n + 1⟩)
              else .none
            | _ => .none
          | .sl .full xs =>
            if szOk s xs = true ∧ 0 < s ∧ zeroOk T elem s = true ∧ (xs.length + k) * byOf T elem ≤ 2 ^ 47 ∧ xs.length + k ≤ 2 ^ 47 then
              .some (.msl st.n 0 (xs.length + k) (ownC s), ⟨(st.n, .cells ((flatE xs ++ ycs).map stripCell)) :: st.H, st.n + 1⟩)
            else .none
          | _ => .none
      | .none => .none
    | .none => .none
  | _ => .none

def appendV (st : St) (t : TypeId) (x y : V) : Option (V × St) :=
  match T.und t, x with
  | .some (.slice _), .msl _ _ _ _ => appendM T st t x y
  | .some (.slice elem), .sl tip xs =>
    match szOf T elem with
    | .some s =>
      match addedV s y with
      | .some ys =>
        if ys.isEmpty then .some (.sl tip xs, st)
        else if 0 < s ∧ szOk s xs = true ∧ zeroOk T elem s = true ∧ (xs.length + ys.length) * byOf T elem ≤ 2 ^ 47 ∧ xs.length + ys.length ≤ 2 ^ 47 then
          match tip with
          | .none => .none
          | .full => if T.C.mutT t = true then appendM T st t x y else .some (.sl (.own st.n) (xs ++ ys.map stripAgg), ⟨(st.n, .tip s) :: st.H, st.n + 1⟩)
          | .own b =>
            match hget st.H b with
            | .some (.tip s') => if s' = s then .some (.sl (.own st.n) (xs ++ ys.map stripAgg), ⟨(st.n, .tip s) :: hdel st.H b, st.n + 1⟩) else .none
            | _ => .none
        else .none
      | .none => .none
    | .none => .none
  | _, _ => .none

/-- The function and the receiver of a call by an interface's method. -/
def methodV (t : TypeId) (v : V) (name : String) : Option (FuncId × V) :=
  match (T.info t).bind fun i => i.methods.find? (·.name == name) with
  | .some m =>
    if m.path.isEmpty then
      match m.func, T.und t with
      | .some (f, true), .some (.pointer _) => .some (f, v)
      | .some (_, true), _ => .none
      | .some (_, false), .some (.pointer _) => .none
      | .some (f, false), .some _ => .some (f, v)
      | _, _ => .none
    else .none
  | .none => .none

/-- Ranges over maps of at most one entry. -/
def rangeV (st : St) (t : TypeId) (x : V) : Option (V × St) :=
  match T.und t, x with
  | .some (.map _ _), .map mb =>
    match hgetM st.H mb with
    | .some es => if es.length ≤ 1 then .some (.ptr st.n 0, ⟨(st.n, .iter1 mb false) :: hset st.H mb (.pin1 es st.n), st.n + 1⟩) else .none
    | .none => .none
  | .some (.map _ _), .nilmap => .some (.ptr st.n 0, ⟨(st.n, .iter0) :: st.H, st.n + 1⟩)
  | _, _ => .none
/-- What an operation yields that may change memory. -/
def wrOp (K : FuncId → List V → St → Option (V × St)) (ρ : Operand → V) (st : St) : Op → Option (V × St)
  | .store t a x => (storeH T st.H t (ρ a) (ρ x)).map fun H => (.tup [], { st with H })
  | .mapUpdate t m k x | .insert t m k x => (mapUpdH T st.H t (ρ m) (ρ k) (ρ x)).map fun H => (.tup [], { st with H })
  | .range t x => rangeV T st t (ρ x)
  | .next it false => nextV st (ρ it)
  | .entry it => entryV st (ρ it)
  | .binOp op t x y _ =>
    if isNilSl y = true then
      match T.und t with
      | .some (.slice _) => (nilSlV op (ρ x)).map fun v => (v, st)
      | _ => .none
    else .none
  | .call { callee := .builtin .append, args, argTypes } =>
    match args.toList, argTypes.toList with
    | [x, y], [t, u] =>
      match T.und u with
      | .some (.slice _) | .some .string => appendV T st t (ρ x) (ρ y)
      | _ => .none
    | _, _ => .none
  | .call { callee := .value g, args, .. } =>
    match ρ g with
    | .func (.func k) fi ca => K k (fi ++ args.toList.map ρ ++ ca) st
    | _ => .none
  | .call { callee := .invoke r name, args, .. } =>
    match ρ r with
    | .iface t v =>
      match methodV T t v name with
      | .some (k, x) => K k (x :: args.toList.map ρ) st
      | .none => .none
    | _ => .none
  | _ => .none

end F
section
variable (C : Cfg)
end
end Go.Vm
/- The evaluator once more, with frames that are trees. -/
namespace Go.Vm
open Go

/-- A frame: at place 0 the value here; at 2k + 1 what stands at k on the left; at 2k + 2 what stands at k on the right. -/
inductive Tr where
  | lf
  | nd (v : V) (l r : Tr)
noncomputable def tg (t : Tr) : Nat → V :=
  Tr.rec (fun _ => .any) (fun v _ _ hl hr n => Nat.rec v (fun k _ => Bool.rec (hr (k / 2)) (hl (k / 2)) (Nat.beq (k % 2) 0)) n) t
noncomputable def tmk (x : V) (f : Nat) : Nat → Tr :=
  Nat.rec (fun _ => .nd x .lf .lf) (fun _ ih n => Nat.rec (.nd x .lf .lf) (fun k _ => Bool.rec (.nd .any .lf (ih (k / 2))) (.nd .any (ih (k / 2)) .lf) (Nat.beq (k % 2) 0)) n) f
noncomputable def ts (x : V) (t : Tr) : Nat → Tr :=
  Tr.rec (fun n => tmk x n n) (fun v l r hl hr n => Nat.rec (.nd x l r) (fun k _ => Bool.rec (.nd v l (hr (k / 2))) (.nd v (hl (k / 2)) r) (Nat.beq (k % 2) 0)) n) t

theorem tg_nd0 (v : V) (l r : Tr) : tg (.nd v l r) 0 = v := rfl
theorem tg_ndS (v : V) (l r : Tr) (k : Nat) : tg (.nd v l r) (k + 1) = if k % 2 = 0 then tg l (k / 2) else tg r (k / 2) := by
  show Bool.rec (motive := fun _ => V) (tg r (k / 2)) (tg l (k / 2)) (Nat.beq (k % 2) 0) = _
  by_cases h : k % 2 = 0
  · rw [h, if_pos rfl]; rfl
  · rw [if_neg h]
    have : Nat.beq (k % 2) 0 = false := by
      cases hb : Nat.beq (k % 2) 0 with
      | false => rfl
      | true => exact absurd (Nat.eq_of_beq_eq_true hb) h
    rw [this]
theorem tg_lf (n : Nat) : tg .lf n = .any := rfl
theorem tmk_0 (x : V) (f : Nat) : tmk x f 0 = .nd x .lf .lf := by cases f <;> rfl
theorem tmk_S (x : V) (f k : Nat) : tmk x (f + 1) (k + 1) = if k % 2 = 0 then .nd .any (tmk x f (k / 2)) .lf else .nd .any .lf (tmk x f (k / 2)) := by
  show Bool.rec (motive := fun _ => Tr) (Tr.nd .any .lf (tmk x f (k / 2))) (Tr.nd .any (tmk x f (k / 2)) .lf) (Nat.beq (k % 2) 0) = _
  by_cases h : k % 2 = 0
  · rw [h, if_pos rfl]; rfl
  · rw [if_neg h]
    have : Nat.beq (k % 2) 0 = false := by
      cases hb : Nat.beq (k % 2) 0 with
      | false => rfl
      | true => exact absurd (Nat.eq_of_beq_eq_true hb) h
    rw [this]
theorem ts_lf (x : V) (n : Nat) : ts x .lf n = tmk x n n := rfl
theorem ts_nd0 (x v : V) (l r : Tr) : ts x (.nd v l r) 0 = .nd x l r := rfl
theorem ts_ndS (x v : V) (l r : Tr) (k : Nat) : ts x (.nd v l r) (k + 1) = if k % 2 = 0 then .nd v (ts x l (k / 2)) r else .nd v l (ts x r (k / 2)) := by
  show Bool.rec (motive := fun _ => Tr) (Tr.nd v l (ts x r (k / 2))) (Tr.nd v (ts x l (k / 2)) r) (Nat.beq (k % 2) 0) = _
  by_cases h : k % 2 = 0
  · rw [h, if_pos rfl]; rfl
  · rw [if_neg h]
    have : Nat.beq (k % 2) 0 = false := by
      cases hb : Nat.beq (k % 2) 0 with
      | false => rfl
      | true => exact absurd (Nat.eq_of_beq_eq_true hb) h
    rw [this]
theorem tg_tmk (x : V) : ∀ (f n j : Nat), n ≤ f → tg (tmk x f n) j = if j = n then x else .any := by
  intro f
  induction f with
  | zero =>
    intro n j h
    obtain rfl : n = 0 := by omega
    rw [tmk_0]
    cases j with
    | zero => rw [tg_nd0, if_pos rfl]
    | succ j => rw [tg_ndS, if_neg (c := j + 1 = 0) (by omega)]; split <;> rfl
  | succ f ih =>
    intro n j h
    cases n with
    | zero =>
      rw [tmk_0]
      cases j with
      | zero => rw [tg_nd0, if_pos rfl]
      | succ j => rw [tg_ndS, if_neg (c := j + 1 = 0) (by omega)]; split <;> rfl
    | succ k =>
      rw [tmk_S]
      by_cases hk : k % 2 = 0
      · rw [if_pos hk]
        cases j with
        | zero => rw [tg_nd0, if_neg (by omega)]
        | succ j =>
          rw [tg_ndS, ih _ _ (by omega)]
          by_cases hj : j % 2 = 0
          · rw [if_pos hj]
            by_cases he : j = k
            · subst he; rw [if_pos rfl, if_pos rfl]
            · rw [if_neg (by omega), if_neg (by omega)]
          · rw [if_neg hj, if_neg (by omega)]; rfl
      · rw [if_neg hk]
        cases j with
        | zero => rw [tg_nd0, if_neg (by omega)]
        | succ j =>
          rw [tg_ndS, ih _ _ (by omega)]
          by_cases hj : j % 2 = 0
          · rw [if_pos hj, if_neg (by omega)]; rfl
          · rw [if_neg hj]
            by_cases he : j = k
            · subst he; rw [if_pos rfl, if_pos rfl]
            · rw [if_neg (by omega), if_neg (by omega)]
theorem tg_ts (x : V) : ∀ (t : Tr) (n j : Nat), tg (ts x t n) j = if j = n then x else tg t j := by
  intro t
  induction t with
  | lf => intro n j; rw [ts_lf, tg_tmk x n n j (Nat.le_refl _), tg_lf]
  | nd v l r ihl ihr =>
    intro n j
    cases n with
    | zero =>
      rw [ts_nd0]
      cases j with
      | zero => rw [tg_nd0, if_pos rfl]
      | succ j => rw [tg_ndS, tg_ndS, if_neg (c := j + 1 = 0) (by omega)]
    | succ k =>
      rw [ts_ndS]
      by_cases hk : k % 2 = 0
      · rw [if_pos hk]
        cases j with
        | zero => rw [tg_nd0, tg_nd0, if_neg (by omega)]
        | succ j =>
          rw [tg_ndS, tg_ndS, ihl]
          by_cases hj : j % 2 = 0
          · rw [if_pos hj, if_pos hj]
            by_cases he : j = k
            · subst he; rw [if_pos rfl, if_pos rfl]
            · rw [if_neg (by omega), if_neg (by omega)]
          · rw [if_neg hj, if_neg hj, if_neg (by omega)]
      · rw [if_neg hk]
        cases j with
        | zero => rw [tg_nd0, tg_nd0, if_neg (by omega)]
        | succ j =>
          rw [tg_ndS, tg_ndS, ihr]
          by_cases hj : j % 2 = 0
          · rw [if_pos hj, if_pos hj, if_neg (by omega)]
          · rw [if_neg hj, if_neg hj]
            by_cases he : j = k
            · subst he; rw [if_pos rfl, if_pos rfl]
            · rw [if_neg (by omega), if_neg (by omega)]

/-- A frame, and the calls that are put off. -/
structure Ff where
  t : Tr
  d : List (V × List V)
noncomputable def Ff.put (f : Ff) (dst : Option Tmp) (v : V) : Ff :=
  match dst with
  | .some d => { f with t := ts v f.t d }
  | .none => f
/-- The same frame. -/
def Rf (F : Ff) (f : Fr) : Prop := (∀ i, tg F.t i = tget f.t i) ∧ F.d = f.d
theorem Rf.put {F : Ff} {f : Fr} (h : Rf F f) (dst : Option Tmp) (v : V) : Rf (F.put dst v) (f.put dst v) := by
  cases dst with
  | none => exact h
  | some d =>
    refine ⟨fun i => ?_, h.2⟩
    show tg (ts v F.t d) i = tget (tset f.t d v) i
    rw [tg_ts, tget_tset, h.1]

section
variable (T : Tab)
end
end Go.Vm
/- The evaluator with frames that are trees answers as the other one. -/
namespace Go.Vm
open Go

section
variable (T : Tab)
end

/-! It answers as the other one. -/
section
variable {C : Cfg} {Φ : Ff} {f : Fr}
end
end Go.Vm
