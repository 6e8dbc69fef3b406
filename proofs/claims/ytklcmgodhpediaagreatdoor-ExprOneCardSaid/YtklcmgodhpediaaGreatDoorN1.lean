/- A deterministic evaluator of the model's code over values (the definitions): whatever it answers, a call answers (proved in the texts behind). -/
import Derived.Tactics
namespace Go.Vm
open Go

/-- What is known of the room behind a slice's end: nothing; that there is none; that this slice alone may use it. -/
inductive Tip where
  | none
  | full
  | own (t : Nat)
  deriving DecidableEq

/-- Values: as the model's, but that a slice bears its elements, and addresses are names of the evaluator's own. 'any': nothing is known. -/
inductive V where
  | any
  | bool (b : Bool)
  | int (k : IntKind) (n : Int)
  | str (s : List UInt8)
  | ptr (b off : Nat)
  | cptr (cs : List V)
  | nilptr
  | sl (tip : Tip) (xs : List V)
  | msl (b off len cap : Nat)
  | map (b : Nat)
  | nilmap
  | func (fn : Fn) (first captured : List V)
  | nilfunc
  | iface (t : TypeId) (v : V)
  | niliface
  | agg (cs : List V)
  | tup (vs : List V)
  deriving Inhabited

/-- What a name of the evaluator's heap stands for. -/
inductive Ob where
  | cells (cs : List V)
  | map (es : List (V × V))
  | tip (sz : Nat)
  /-- a map that is ranged over: its entries' stamps, and its clock -/
  | pin (es : List (V × V)) (bs : List Nat) (ck : Nat)
  /-- a range over a map: the map, its clock at the start, the stamps of what has been met -/
  | iter (mb since : Nat) (seen : List Nat)
  /-- a map of at most one entry that is ranged over: by which range -/
  | pin1 (es : List (V × V)) (ib : Nat)
  /-- a range over such a map: has its entry been met? -/
  | iter1 (mb : Nat) (done : Bool)
  /-- a range over no map -/
  | iter0
  deriving Inhabited

/-- The heap, and the next name. -/
structure St where
  H : List (Nat × Ob)
  n : Nat

def hget : List (Nat × Ob) → Nat → Option Ob
  | [], _ => .none
  | (i, o) :: r, b => if i == b then .some o else hget r b
/-- A map's entries. -/
def obMap : Ob → Option (List (V × V))
  | .map es => .some es
  | .pin1 es _ => .some es
  | .pin es _ _ => .some es
  | _ => .none
def hgetM (H : List (Nat × Ob)) (b : Nat) : Option (List (V × V)) := (hget H b).bind obMap
def hset : List (Nat × Ob) → Nat → Ob → List (Nat × Ob)
  | [], _, _ => []
  | (i, o) :: r, b, x => if i == b then (i, x) :: r else (i, o) :: hset r b x
def hdel : List (Nat × Ob) → Nat → List (Nat × Ob)
  | [], _ => []
  | (i, o) :: r, b => if i == b then r else (i, o) :: hdel r b
/-- The heap without the names from n on. -/
def hdrop (n : Nat) : List (Nat × Ob) → List (Nat × Ob)
  | [] => []
  | (i, o) :: r => if n ≤ i then hdrop n r else (i, o) :: r

/-- A frame: the temporaries, and the calls that are put off. -/
structure Fr where
  t : List (Nat × V)
  d : List (V × List V)

def tget : List (Nat × V) → Nat → V
  | [], _ => .any
  | (i, v) :: r, b => if i == b then v else tget r b
def tset : List (Nat × V) → Nat → V → List (Nat × V)
  | [], b, x => [(b, x)]
  | (i, v) :: r, b, x => if i == b then (i, x) :: r else (i, v) :: tset r b x
def Fr.put (f : Fr) (dst : Option Tmp) (v : V) : Fr :=
  match dst with
  | .some d => { f with t := tset f.t d v }
  | .none => f

def ofScalar : Value → V
  | .bool b => .bool b
  | .int k n => .int k n
  | .string s => .str s.data.toList
  | .pointer .none => .nilptr
  | .slice .none 0 0 => .sl .full []
  | .map .none => .nilmap
  | .func fn fi ca => if fi.isEmpty && ca.isEmpty then .func fn [] [] else .any
  | .nilFunc => .nilfunc
  | .nilIface => .niliface
  | _ => .any
def ofCell : Value → V
  | .iface t v => .iface t (ofScalar v)
  | v => ofScalar v
def ofVal : Value → V
  | .agg cs => if cs.toList.all (·.oneCell') then .agg (cs.toList.map ofCell) else .any
  | .tuple vs => .tup (vs.toList.map ofCell)
  | v => ofCell v

/-- The cells of a value (a tuple has none). -/
def cellsOf : V → Option (List V)
  | .agg cs => .some cs
  | .tup _ => .none
  | .any => .none
  | v => .some [v]
def ncells : V → Nat
  | .agg cs => cs.length
  | _ => 1

/-- Nothing is known of the room behind slices any more. -/
def stripCell : V → V
  | .sl _ xs => .sl .none xs
  | v => v
def stripAgg : V → V
  | .agg cs => .agg (cs.map stripCell)
  | v => stripCell v
def strip : V → V
  | .tup vs => .tup (vs.map stripAgg)
  | v => stripAgg v

/-- What the evaluator is told beside the program. -/
structure Cfg where
  P : Program
  /-- package-level variables -/
  glob : Nat → V
  /-- functions that are known by what they answer -/
  X : FuncId → List V → St → Option (V × St)
  /-- functions behind whose call what they made is kept -/
  keep : FuncId → Bool
  /-- functions whose answers' new memory never changes any more -/
  frz : FuncId → Bool
  /-- functions whose answers keep what is known of the room behind slices -/
  grow : FuncId → Bool
  /-- functions that are run with a memory of their own -/
  pure : FuncId → Bool
  /-- struct types whose values may be held against each other -/
  eqs : List TypeId
  /-- what holds of every world, as its first blocks say -/
  I : World → Prop := fun _ => True
  /-- types of slices that may be written once they have been appended to -/
  mutT : TypeId → Bool := fun _ => false
  lo : Nat := 0

variable (C : Cfg)

def evalO (f : Fr) : Operand → V
  | .tmp t => tget f.t t
  | .const v => ofVal v
  | .global g => C.glob g
  | .func k => .func (.func k) [] []

def isAggT (d : TypeDesc) : Bool :=
  match d with
  | .struct _ | .array _ _ => true
  | _ => false

/-- A type's size in cells. -/
def szOf (t : TypeId) : Option Nat := (C.P.info? t).map (·.size)
def byOf (t : TypeId) : Nat := ((C.P.info? t).map (·.bytes)).getD 0
def zeroV (t : TypeId) : Option V := ((C.P.info? t).bind (·.zero)).map ofVal

/-- The value of type t whose cells begin at a place. -/
def partV (t : TypeId) (cs : List V) (off : Nat) : Option V :=
  match C.P.underlying t with
  | .none => .none
  | .some d =>
    if isAggT d then
      match szOf C t with
      | .some s => if off + s ≤ cs.length then .some (.agg ((cs.drop off).take s)) else .none
      | .none => .none
    else cs[off]?

def putAt (cs : List V) (off : Nat) (vs : List V) : List V := cs.take off ++ vs ++ cs.drop (off + vs.length)

def fillV (place : Nat → Option (Nat × Nat)) (cs : List V) : List (Nat × V) → Option (List V)
  | [] => .some cs
  | (i, v) :: rest =>
    match place i, cellsOf v with
    | .some (off, size), .some vs =>
      if vs.length = size ∧ off + vs.length ≤ cs.length then fillV place (putAt cs off vs) rest else .none
    | _, _ => .none

def placesV (fields : List Field) : Option (List (Nat × Nat)) := fields.mapM fun f => (C.P.info? f.type).map fun i => (f.offset, i.size)

def buildV (t : TypeId) (parts : List (Nat × V)) : Option V :=
  match C.P.underlying t, zeroV C t with
  | .some (.struct fields), .some (.agg zs) =>
    match placesV C fields.toList with
    | .some places => (fillV (places[·]?) zs parts).map .agg
    | .none => .none
  | .some (.array _ elem), .some (.agg zs) =>
    match szOf C elem with
    | .some s => (fillV (fun i => .some (i * s, s)) zs parts).map .agg
    | .none => .none
  | _, _ => .none

def setAll (xs : List V) : List (Nat × V) → List V
  | [] => xs
  | (i, v) :: rest => setAll (xs.set i (stripAgg v)) rest

/-- Elements of slices: each of so many cells. -/
def szOk (s : Nat) (xs : List V) : Bool :=
  match xs with
  | [] => true
  | x :: _ => ncells x == s

def isElem : V → Bool
  | .tup _ | .any => false
  | _ => true

def buildSliceV (t : TypeId) (len : Nat) (parts : List (Nat × V)) : Option V :=
  match C.P.underlying t with
  | .some (.slice elem) =>
    match szOf C elem, zeroV C elem with
    | .some s, .some z =>
      if 0 < s ∧ len * s ≤ 2 ^ 24 ∧ isElem z = true ∧ ncells z = s ∧ parts.all (fun p => isElem p.2 && ncells p.2 == s && decide (p.1 < len)) = true
      then .some (.sl .full (setAll (List.replicate len (stripAgg z)) parts)) else .none
    | _, _ => .none
  | _ => .none

/-- Are keys of maps the same? -/
def eqCell : V → V → Option Bool
  | .int k a, .int k' b => if k = k' then .some (a == b) else .none
  | .str a, .str b => .some (a == b)
  | _, _ => .none

/-- Are values of a type that is no struct the same? -/
def eqU (u : TypeDesc) (x y : V) : Option Bool :=
  match u, x, y with
  | .bool, .bool a, .bool b => .some (a == b)
  | .int _, .int k a, .int k' b => if k = k' then .some (a == b) else .none
  | .string, .str a, .str b => .some (a == b)
  | .pointer _, .nilptr, .nilptr => .some true
  | .pointer _, .nilptr, .ptr _ _ | .pointer _, .nilptr, .cptr _ | .pointer _, .ptr _ _, .nilptr | .pointer _, .cptr _, .nilptr => .some false
  | .interface _, .niliface, .iface _ _ | .interface _, .iface _ _, .niliface => .some false
  | .map _ _, .nilmap, .nilmap => .some true
  | .map _ _, .nilmap, .map _ | .map _ _, .map _, .nilmap => .some false
  | .func _ _ _, .nilfunc, .nilfunc => .some true
  | .func _ _ _, .nilfunc, .func _ _ _ | .func _ _ _, .func _ _ _, .nilfunc => .some false
  | _, _, _ => .none

def bytesLess : List UInt8 → List UInt8 → Bool := Op.bytesLess

def intBin (op : BinOp) (k : IntKind) (a b : Int) : Option V :=
  match op with
  | .add => .some (.int k (k.wrap (a + b)))
  | .sub => .some (.int k (k.wrap (a - b)))
  | .mul => .some (.int k (k.wrap (a * b)))
  | .quo => if b = 0 then .none else .some (.int k (k.wrap (a.tdiv b)))
  | .rem => if b = 0 then .none else .some (.int k (a.tmod b))
  | .and => .some (.int k (k.wrap (BitVec.ofInt k.bits a &&& BitVec.ofInt k.bits b).toNat))
  | .or => .some (.int k (k.wrap (BitVec.ofInt k.bits a ||| BitVec.ofInt k.bits b).toNat))
  | .xor => .some (.int k (k.wrap (BitVec.ofInt k.bits a ^^^ BitVec.ofInt k.bits b).toNat))
  | .andNot => .some (.int k (k.wrap (BitVec.ofInt k.bits a &&& ~~~ BitVec.ofInt k.bits b).toNat))
  | .eql => .some (.bool (a == b))
  | .neq => .some (.bool (a != b))
  | .lss => .some (.bool (decide (a < b)))
  | .leq => .some (.bool (decide (a ≤ b)))
  | .gtr => .some (.bool (decide (a > b)))
  | .geq => .some (.bool (decide (a ≥ b)))
  | _ => .none
def shiftBin (op : BinOp) (k : IntKind) (a b : Int) : Option V :=
  if b < 0 then .none else
  match op with
  | .shl => .some (.int k (k.wrap (a * 2 ^ (min b.toNat k.bits))))
  | .shr => .some (.int k (a.fdiv (2 ^ (min b.toNat k.bits))))
  | _ => .none
def strBin (op : BinOp) (a b : List UInt8) : Option V :=
  match op with
  | .add => if a.length + b.length ≤ 2 ^ 62 then .some (.str (a ++ b)) else .none
  | .eql => .some (.bool (a == b))
  | .neq => .some (.bool (!(a == b)))
  | .lss => .some (.bool (bytesLess a b))
  | .leq => .some (.bool (bytesLess a b || a == b))
  | .gtr => .some (.bool (!(bytesLess a b || a == b)))
  | .geq => .some (.bool (!bytesLess a b))
  | _ => .none

/-- Are the fields the same, one behind the other? -/
def eqF (E : TypeId → V → V → Option Bool) : List Field → List V → List V → Option Bool
  | [], _, _ => .some true
  | f :: fs, xs, ys =>
    if f.name = "_" then eqF E fs xs ys else
    match partV C f.type xs f.offset, partV C f.type ys f.offset with
    | .some a, .some b =>
      match E f.type a b with
      | .some true => eqF E fs xs ys
      | .some false => .some false
      | .none => .none
    | _, _ => .none
/-- Are two values of a type the same? -/
def eqT : Nat → TypeId → V → V → Option Bool
  | 0, _, _, _ => .none
  | d + 1, t, x, y =>
    match C.P.underlying t with
    | .none => .none
    | .some (.struct fs) =>
      match x, y with
      | .agg xs, .agg ys => if C.eqs.contains t then eqF C (eqT d) fs.toList xs ys else .none
      | _, _ => .none
    | .some u => eqU u x y

/-- Are two interfaces' values the same (numbers and texts)? -/
def ifaceEq (tx : TypeId) (vx : V) (ty : TypeId) (vy : V) : Option Bool :=
  if tx = ty then
    match C.P.info? tx, C.P.underlying tx, vx, vy with
    | .some i, .some (.int _), .int k a, .int k' b => if i.comparable = true ∧ k = k' then .some (a == b) else .none
    | .some i, .some .string, .str a, .str b => if i.comparable = true then .some (a == b) else .none
    | _, _, _, _ => .none
  else .some false

/-- 'x op y'; nils: whether one of them is the word nil. -/
def binV (nils : Bool) (op : BinOp) (t : TypeId) (x y : V) : Option V :=
  match x, y with
  | .int k a, .int k' b =>
    match op with
    | .shl | .shr => shiftBin op k a b
    | _ => if k = k' then intBin op k a b else .none
  | .str a, .str b => strBin op a b
  | .niliface, .niliface =>
    match C.P.underlying t with
    | .some (.interface _) =>
      if nils then
        match op with
        | .eql => .some (.bool true)
        | .neq => .some (.bool false)
        | _ => .none
      else .none
    | _ => .none
  | .iface tx vx, .iface ty vy =>
    match C.P.underlying t with
    | .some (.interface _) =>
      match op with
      | .eql => (ifaceEq C tx vx ty vy).map fun r => .bool r
      | .neq => (ifaceEq C tx vx ty vy).map fun r => .bool (!r)
      | _ => .none
    | _ => .none
  | _, _ =>
    match op with
    | .eql => (eqT C 9 t x y).map fun r => .bool r
    | .neq => (eqT C 9 t x y).map fun r => .bool (!r)
    | _ => .none

def unV (op : UnOp) (x : V) : Option V :=
  match op, x with
  | .neg, .int k n => .some (.int k (k.wrap (0 - n)))
  | .xor, .int k n => .some (.int k (k.wrap (BitVec.ofInt k.bits (if k.signed then -1 else k.max) ^^^ BitVec.ofInt k.bits n).toNat))
  | .not, .bool b => .some (.bool (!b))
  | _, _ => .none

/-- A type of bytes. -/
def isU8 (t : TypeId) : Bool :=
  match C.P.underlying t with
  | .some (.int .u8) => true
  | _ => false

/-- Bytes as cells, and back. -/
def ofBytes (s : List UInt8) : List V := s.map fun b => .int .u8 b.toNat
def toBytes : List V → Option (List UInt8)
  | [] => .some []
  | .int .u8 n :: r => (toBytes r).map (UInt8.ofNat n.toNat :: ·)
  | _ => .none

def convV (H : List (Nat × Ob)) (src dst : TypeId) (x : V) : Option V :=
  match C.P.underlying src, C.P.underlying dst, x with
  | .some _, .some (.int k), .int _ n => .some (.int k (k.wrap n))
  | .some (.slice e), .some .string, .sl _ xs => if isU8 C e = true then (toBytes xs).map .str else .none
  | .some (.slice e), .some .string, .msl b off len _ =>
    match hget H b with
    | .some (.cells cs) => if isU8 C e = true ∧ off + len ≤ cs.length then (toBytes ((cs.drop off).take len)).map .str else .none
    | _ => .none
  | .some _, .some .string, .str s => .some (.str s)
  | .some _, .some .string, .int _ n => if 0 ≤ n ∧ n < 128 then .some (.str [UInt8.ofNat n.toNat]) else .none
  | _, _, _ => .none

def asIntV : V → Option Int
  | .int _ n => .some n
  | _ => .none

/-- A bound that is given, or none. -/
def bndV : Option V → Option (Option Int)
  | .none => .some .none
  | .some v => (asIntV v).map .some

/-- The bounds of a slice expression without a third index. -/
def boundsV (len : Nat) (lo hi : Option V) : Option (Nat × Nat) :=
  match bndV lo, bndV hi with
  | .some l, .some h => if 0 ≤ l.getD 0 ∧ l.getD 0 ≤ h.getD len ∧ h.getD len ≤ len then .some ((l.getD 0).toNat, (h.getD len).toNat) else .none
  | _, _ => .none

/-- The room of a slice that is not known. -/
def unk : Nat := 18446744073709551616
/-- The room of a slice that begins a row of its own: not known, but all of it is there. -/
def ownC (s : Nat) : Nat := 18446744073709551617 + s

def sliceV (t : TypeId) (x : V) (lo hi : Option V) : Option V :=
  match C.P.underlying t, x with
  | .some .string, .str s => (boundsV s.length lo hi).map fun (l, h) => .str ((s.take h).drop l)
  | .some (.slice elem), .sl tip xs =>
    match szOf C elem, boundsV xs.length lo hi with
    | .some s, .some (l, h) =>
      if szOk s xs = true ∧ 0 < s then .some (.sl (if h = xs.length ∧ l < h then tip else .none) ((xs.take h).drop l)) else .none
    | _, _ => .none
  | .some (.slice elem), .msl b off len cap =>
    match szOf C elem, boundsV len lo hi with
    | .some s, .some (l, h) => if 0 < s then (if l < h then .some (.msl b (off + l * s) (h - l) (if cap < unk then cap - l else unk)) else .some (.sl .none [])) else .none
    | _, _ => .none
  | .some (.array n elem), .ptr b off =>
    match szOf C elem, boundsV n lo hi with
    | .some s, .some (l, h) => if 0 < s ∧ n < unk then (if l < h then .some (.msl b (off + l * s) (h - l) (n - l)) else .some (.sl .none [])) else .none
    | _, _ => .none
  | _, _ => .none

/-- A slice expression with a third index. -/
def slice3V (t : TypeId) (x : V) (lo : Option V) (hi mx : V) : Option V :=
  match C.P.underlying t, bndV lo, asIntV hi, asIntV mx with
  | .some (.slice elem), .some l0, .some h, .some m =>
    match szOf C elem, x with
    | .some s, .sl _ xs =>
      if szOk s xs = true ∧ 0 < s ∧ 0 ≤ l0.getD 0 ∧ l0.getD 0 ≤ h ∧ h ≤ m ∧ m ≤ xs.length then .some (.sl (if h = m then .full else .none) ((xs.take h.toNat).drop (l0.getD 0).toNat)) else .none
    | .some s, .msl b off len _ =>
      if 0 < s ∧ 0 ≤ l0.getD 0 ∧ l0.getD 0 ≤ h ∧ h ≤ m ∧ m ≤ len ∧ m < unk then
        (if l0.getD 0 < h then .some (.msl b (off + (l0.getD 0).toNat * s) (h.toNat - (l0.getD 0).toNat) (m.toNat - (l0.getD 0).toNat)) else .some (.sl (if h = m then .full else .none) [])) else .none
    | _, _ => .none
  | _, _, _, _ => .none

def indexAddrV (t : TypeId) (x ix : V) : Option V :=
  match C.P.underlying t, x, ix with
  | .some (.slice elem), .sl _ xs, .int _ i =>
    match szOf C elem with
    | .some s => if 0 ≤ i ∧ 0 < s ∧ szOk s xs = true then
        match xs[i.toNat]? with
        | .some x => (cellsOf x).map .cptr
        | .none => .none
      else .none
    | .none => .none
  | .some (.slice elem), .msl b off len _, .int _ i =>
    match szOf C elem with
    | .some s => if 0 ≤ i ∧ i < len ∧ 0 < s then .some (.ptr b (off + i.toNat * s)) else .none
    | .none => .none
  | .some (.array n elem), .ptr b off, .int _ i =>
    match szOf C elem with
    | .some s => if 0 ≤ i ∧ i < n ∧ 0 < s then .some (.ptr b (off + i.toNat * s)) else .none
    | .none => .none
  | .some (.array n elem), .cptr cs, .int _ i =>
    match szOf C elem with
    | .some s => if 0 ≤ i ∧ i < n ∧ 0 < s ∧ i.toNat * s + s ≤ cs.length then .some (.cptr ((cs.drop (i.toNat * s)).take s)) else .none
    | .none => .none
  | _, _, _ => .none

def indexV (t : TypeId) (x ix : V) : Option V :=
  match C.P.underlying t, x, ix with
  | .some .string, .str s, .int _ i => if 0 ≤ i then (s[i.toNat]?).map fun b => .int .u8 b.toNat else .none
  | .some (.array n elem), .agg cs, .int _ i =>
    match szOf C elem with
    | .some s => if 0 ≤ i ∧ i < n ∧ 0 < s then partV C elem cs (i.toNat * s) else .none
    | .none => .none
  | _, _, _ => .none

def fieldV (t : TypeId) (x : V) (i : Nat) : Option V :=
  match C.P.underlying t, x with
  | .some (.struct fields), .agg cs =>
    match fields[i]? with
    | .some f => partV C f.type cs f.offset
    | .none => .none
  | _, _ => .none

def fieldAddrV (t : TypeId) (x : V) (i : Nat) : Option V :=
  match C.P.underlying t with
  | .some (.struct fields) =>
    match fields[i]? with
    | .some f =>
      match szOf C f.type, x with
      | .some s, .ptr b off => if 0 < s then .some (.ptr b (off + f.offset)) else .none
      | .some s, .cptr cs => if 0 < s ∧ f.offset + s ≤ cs.length then .some (.cptr ((cs.drop f.offset).take s)) else .none
      | _, _ => .none
    | .none => .none
  | _ => .none

def loadV (H : List (Nat × Ob)) (t : TypeId) (a : V) : Option V :=
  match a with
  | .cptr cs => partV C t cs 0
  | .ptr b off =>
    match hget H b with
    | .some (.cells cs) => partV C t cs off
    | _ => .none
  | _ => .none

def nilCheckV : V → Option V
  | .ptr b off => .some (.ptr b off)
  | .cptr cs => .some (.cptr cs)
  | .func (.func k) fi ca => .some (.func (.func k) fi ca)
  | .iface t v => .some (.iface t v)
  | _ => .none

def makeIfaceV (t : TypeId) (x : V) : Option V :=
  match C.P.underlying t with
  | .some (.interface _) => .none
  | .some _ => .some (.iface t x)
  | .none => .none

def findV (k : V) : List (V × V) → Option (Option V)
  | [] => .some .none
  | (k', v) :: r =>
    match eqCell k k' with
    | .some true => .some (.some v)
    | .some false => findV k r
    | .none => .none

/-- The kinds of maps' keys that the evaluator knows. -/
def keyT (d : TypeDesc) (k : V) : Bool :=
  match d, k with
  | .int _, .int _ _ | .string, .str _ => true
  | _, _ => false

def lookupV (H : List (Nat × Ob)) (t : TypeId) (x ix : V) (ok : Bool) : Option V :=
  match C.P.underlying t with
  | .some (.map key elem) =>
    match C.P.underlying key, zeroV C elem with
    | .some kd, .some z =>
      if keyT kd ix = true then
        match (match x with
               | .nilmap => .some .none
               | .map b => match hgetM H b with
                 | .some es => findV ix es
                 | _ => .none
               | _ => .none : Option (Option V)) with
        | .some (.some v) => .some (if ok then .tup [v, .bool true] else v)
        | .some .none => .some (if ok then .tup [z, .bool false] else z)
        | .none => .none
      else .none
    | _, _ => .none
  | _ => .none

def lenV (H : List (Nat × Ob)) (t : TypeId) (x : V) : Option V :=
  match C.P.underlying t, x with
  | .some .string, .str s => .some (.int .i64 s.length)
  | .some (.slice _), .sl _ xs => .some (.int .i64 xs.length)
  | .some (.slice _), .msl _ _ len _ => .some (.int .i64 len)
  | .some (.array n _), _ => .some (.int .i64 n)
  | .some (.map _ _), .nilmap => .some (.int .i64 0)
  | .some (.map _ _), .map b =>
    match hgetM H b with
    | .some es => .some (.int .i64 es.length)
    | _ => .none
  | _, _ => .none

def isNilWord : Operand → Bool
  | .const _ => true
  | _ => false

/-- What an operation yields that leaves memory alone. -/
def rdOp (H : List (Nat × Ob)) (ρ : Operand → V) : Op → Option V
  | .move x | .assign x => .some (ρ x)
  | .pick c a b =>
    match ρ c with
    | .bool t => .some (if t then ρ a else ρ b)
    | _ => .none
  | .build t parts => buildV C t (parts.toList.map fun (i, x) => (i, ρ x))
  | .load t a => loadV C H t (ρ a)
  | .nilCheck x => nilCheckV (ρ x)
  | .binOp op t x y _ => binV C (isNilWord x || isNilWord y) op t (ρ x) (ρ y)
  | .unOp op _ x => unV op (ρ x)
  | .convert s d x => convV C H s d (ρ x)
  | .makeInterface t x => makeIfaceV C t (ρ x)
  | .makeFunc fn first captured => .some (.func fn (first.toList.map ρ) (captured.toList.map ρ))
  | .slice t x lo hi .none => sliceV C t (ρ x) (lo.map ρ) (hi.map ρ)
  | .slice t x lo (.some hi) (.some mx) => slice3V C t (ρ x) (lo.map ρ) (ρ hi) (ρ mx)
  | .fieldAddr t x i => fieldAddrV C t (ρ x) i
  | .field t x i => fieldV C t (ρ x) i
  | .indexAddr t x ix => indexAddrV C t (ρ x) (ρ ix)
  | .index t x ix => indexV C t (ρ x) (ρ ix)
  | .lookup t x ix ok => lookupV C H t (ρ x) (ρ ix) ok
  | .extract x i =>
    match ρ x with
    | .tup vs => vs[i]?
    | _ => .none
  | .call { callee := .builtin .len, args, argTypes } =>
    match args.toList, argTypes.toList with
    | [x], [t] => lenV C H t (ρ x)
    | _, _ => .none
  | _ => .none

/-- What an operation yields that makes memory, and changes none: the value, and what is made under the next name. -/
def alOp (n : Nat) (ρ : Operand → V) : Op → Option (V × Option Ob)
  | .alloc t => (zeroV C t).bind fun z => (cellsOf z).map fun cs => (.ptr n 0, .some (.cells cs))
  | .box _ x => (cellsOf (ρ x)).map fun cs => (.ptr n 0, .some (.cells cs))
  | .buildSlice t len parts => (buildSliceV C t len (parts.toList.map fun (i, x) => (i, ρ x))).map fun v => (v, .none)
  | .makeMap _ .none => .some (.map n, .some (.map []))
  | .convert s d x =>
    match C.P.underlying s, C.P.underlying d, ρ x with
    | .some _, .some (.slice e), .str l => if isU8 C e = true ∧ l.length ≤ 2 ^ 47 then .some (.sl (.own n) (ofBytes l), .some (.tip 1)) else .none
    | _, _, _ => .none
  | .makeSlice t l c =>
    match C.P.underlying t, ρ l, ρ c with
    | .some (.slice e), .int _ i, .int _ j =>
      match szOf C e, (zeroV C e).bind cellsOf with
      | .some s, .some zs =>
        if 0 ≤ i ∧ i ≤ j ∧ 0 < s ∧ zs.length = s ∧ j * byOf C e ≤ 2 ^ 47 ∧ j < 2 ^ 62 then
          if i = j then .some (.msl n 0 i.toNat i.toNat, .some (.cells (List.replicate i.toNat zs).flatten))
          else if i = 0 then .some (.sl (.own n) [], .some (.tip s)) else .none
        else .none
      | _, _ => .none
    | _, _, _ => .none
  | _ => .none


def storeH (H : List (Nat × Ob)) (t : TypeId) (a x : V) : Option (List (Nat × Ob)) :=
  match a, szOf C t, cellsOf x with
  | .ptr b off, .some s, .some vs =>
    match hget H b with
    | .some (.cells cs) => if vs.length = s ∧ off + vs.length ≤ cs.length then .some (hset H b (.cells (putAt cs off vs))) else .none
    | _ => .none
  | _, _, _ => .none

def setMap (k v : V) : List (V × V) → Option (List (V × V))
  | [] => .some [(k, v)]
  | (k', v') :: r =>
    match eqCell k k' with
    | .some true => .some ((k, v) :: r)
    | .some false => (setMap k v r).map ((k', v') :: ·)
    | .none => .none

def mapUpdH (H : List (Nat × Ob)) (t : TypeId) (m k v : V) : Option (List (Nat × Ob)) :=
  match C.P.underlying t, m with
  | .some (.map key _), .map b =>
    match C.P.underlying key, hgetM H b with
    | .some kd, .some es => if keyT kd k = true then (setMap k v es).map fun es' => hset H b (.map es') else .none
    | _, _ => .none
  | _, _ => .none

/-- The elements that an append adds. -/
def addedV (s : Nat) : V → Option (List V)
  | .sl _ ys => if szOk s ys = true then .some ys else .none
  | .str l => if s = 1 then .some (ofBytes l) else .none
  | _ => .none

/-- A type's zero value has so many cells. -/
def zeroOk (t : TypeId) (s : Nat) : Bool :=
  match zeroV C t with
  | .some z => isElem z && ncells z == s
  | .none => false

def elemCells : V → List V
  | .agg cs => cs
  | v => [v]
/-- Elements' cells. -/
def flatE (xs : List V) : List V := xs.flatMap elemCells

/-- The elements that an append adds: how many, and their cells. -/
def addedH (H : List (Nat × Ob)) (s : Nat) : V → Option (Nat × List V)
  | .sl _ ys => if szOk s ys = true then .some (ys.length, flatE ys) else .none
  | .str l => if s = 1 then .some (l.length, ofBytes l) else .none
  | .msl b off len _ =>
    match hget H b with
    | .some (.cells cs) => if off + len * s ≤ cs.length then .some (len, (cs.drop off).take (len * s)) else .none
    | _ => .none
  | _ => .none

/-- append to a slice that may be written. -/
def appendM (st : St) (t : TypeId) (x y : V) : Option (V × St) :=
  match C.P.underlying t with
  | .some (.slice elem) =>
    match szOf C elem with
    | .some s =>
      match addedH st.H s y with
      | .some (k, ycs) =>
        if k = 0 then .some (x, st)
        else
          match x with
          | .msl b off len cap =>
            match hget st.H b with
            | .some (.cells cs) =>
              if off = 0 ∧ cap = ownC s ∧ cs.length = len * s ∧ 0 < s ∧ zeroOk C elem s = true ∧ (len + k) * byOf C elem ≤ 2 ^ 47 ∧ len + k ≤ 2 ^ 47 then
                .some (.msl st.n 0 (len + k) (ownC s), ⟨(st.n, .cells (cs ++ ycs.map stripCell)) :: hdel st.H b, st.n + 1⟩)
              else .none
            | _ => .none
          | .sl .full xs =>
            if szOk s xs = true ∧ 0 < s ∧ zeroOk C elem s = true ∧ (xs.length + k) * byOf C elem ≤ 2 ^ 47 ∧ xs.length + k ≤ 2 ^ 47 then
              .some (.msl st.n 0 (xs.length + k) (ownC s), ⟨(st.n, .cells ((flatE xs ++ ycs).map stripCell)) :: st.H, st.n + 1⟩)
            else .none
          | _ => .none
      | .none => .none
    | .none => .none
  | _ => .none

def appendV (st : St) (t : TypeId) (x y : V) : Option (V × St) :=
  match C.P.underlying t, x with
  | .some (.slice _), .msl _ _ _ _ => appendM C st t x y
  | .some (.slice elem), .sl tip xs =>
    match szOf C elem with
    | .some s =>
      match addedV s y with
      | .some ys =>
        if ys.isEmpty then .some (.sl tip xs, st)
        else if 0 < s ∧ szOk s xs = true ∧ zeroOk C elem s = true ∧ (xs.length + ys.length) * byOf C elem ≤ 2 ^ 47 ∧ xs.length + ys.length ≤ 2 ^ 47 then
          match tip with
          | .none => .none
          | .full => if C.mutT t = true then appendM C st t x y else .some (.sl (.own st.n) (xs ++ ys.map stripAgg), ⟨(st.n, .tip s) :: st.H, st.n + 1⟩)
          | .own b =>
            match hget st.H b with
            | .some (.tip s') => if s' = s then .some (.sl (.own st.n) (xs ++ ys.map stripAgg), ⟨(st.n, .tip s) :: hdel st.H b, st.n + 1⟩) else .none
            | _ => .none
        else .none
      | .none => .none
    | .none => .none
  | _, _ => .none

/-- The function and the receiver of a call by an interface's method. -/
def methodV (t : TypeId) (v : V) (name : String) : Option (FuncId × V) :=
  match (C.P.info? t).bind fun i => i.methods.find? (·.name == name) with
  | .some m =>
    if m.path.isEmpty then
      match m.func, C.P.underlying t with
      | .some (f, true), .some (.pointer _) => .some (f, v)
      | .some (_, true), _ => .none
      | .some (_, false), .some (.pointer _) => .none
      | .some (f, false), .some _ => .some (f, v)
      | _, _ => .none
    else .none
  | .none => .none

/-- Ranges over maps of at most one entry. -/
def rangeV (st : St) (t : TypeId) (x : V) : Option (V × St) :=
  match C.P.underlying t, x with
  | .some (.map _ _), .map mb =>
    match hgetM st.H mb with
    | .some es => if es.length ≤ 1 then .some (.ptr st.n 0, ⟨(st.n, .iter1 mb false) :: hset st.H mb (.pin1 es st.n), st.n + 1⟩) else .none
    | .none => .none
  | .some (.map _ _), .nilmap => .some (.ptr st.n 0, ⟨(st.n, .iter0) :: st.H, st.n + 1⟩)
  | _, _ => .none
def nextV (st : St) (it : V) : Option (V × St) :=
  match it with
  | .ptr ib 0 =>
    match hget st.H ib with
    | .some .iter0 => .some (.tup [.bool false], st)
    | .some (.iter1 mb done) =>
      match hget st.H mb with
      | .some (.pin1 es jb) =>
        if jb = ib then
          match es, done with
          | [e], false => .some (.tup [.bool true, e.1, e.2], ⟨hset st.H ib (.iter1 mb true), st.n⟩)
          | _, _ => .some (.tup [.bool false], ⟨hset st.H mb (.map es), st.n⟩)
        else .none
      | _ => .none
    | _ => .none
  | _ => .none
def entryV (st : St) (it : V) : Option (V × St) :=
  match it with
  | .ptr ib 0 =>
    match hget st.H ib with
    | .some (.iter1 mb true) =>
      match hget st.H mb with
      | .some (.pin1 [e] jb) => if jb = ib then .some (.tup [e.1, e.2], st) else .none
      | _ => .none
    | _ => .none
  | _ => .none

/-- The word nil, of a slice's type. -/
def isNilSl : Operand → Bool
  | .const (.slice .none 0 0) => true
  | _ => false
/-- A slice that has elements, held against nil. -/
def nilSlV (op : BinOp) : V → Option V
  | .sl _ (_ :: _) | .msl _ _ (_ + 1) _ =>
    match op with
    | .eql => .some (.bool false)
    | .neq => .some (.bool true)
    | _ => .none
  | _ => .none

/-- What an operation yields that may change memory. -/
def wrOp (K : FuncId → List V → St → Option (V × St)) (ρ : Operand → V) (st : St) : Op → Option (V × St)
  | .store t a x => (storeH C st.H t (ρ a) (ρ x)).map fun H => (.tup [], { st with H })
  | .mapUpdate t m k x | .insert t m k x => (mapUpdH C st.H t (ρ m) (ρ k) (ρ x)).map fun H => (.tup [], { st with H })
  | .range t x => rangeV C st t (ρ x)
  | .next it false => nextV st (ρ it)
  | .entry it => entryV st (ρ it)
  | .binOp op t x y _ =>
    if isNilSl y = true then
      match C.P.underlying t with
      | .some (.slice _) => (nilSlV op (ρ x)).map fun v => (v, st)
      | _ => .none
    else .none
  | .call { callee := .builtin .append, args, argTypes } =>
    match args.toList, argTypes.toList with
    | [x, y], [t, u] =>
      match C.P.underlying u with
      | .some (.slice _) | .some .string => appendV C st t (ρ x) (ρ y)
      | _ => .none
    | _, _ => .none
  | .call { callee := .value g, args, .. } =>
    match ρ g with
    | .func (.func k) fi ca => K k (fi ++ args.toList.map ρ ++ ca) st
    | _ => .none
  | .call { callee := .invoke r name, args, .. } =>
    match ρ r with
    | .iface t v =>
      match methodV C t v name with
      | .some (k, x) => K k (x :: args.toList.map ρ) st
      | .none => .none
    | _ => .none
  | _ => .none

/-- Is an operation to be done (it may be guarded)? -/
def wantedV (f : Fr) (ops : Array Oper) (o : Oper) : Option Bool :=
  match o.guard with
  | .none => .some true
  | .some (j, want) =>
    match (ops[j]?).bind (·.dst) with
    | .none => .some false
    | .some d =>
      match tget f.t d with
      | .bool b => .some (b == want)
      | .tup _ => .some false
      | _ => .none

def St.add (st : St) : Option Ob → St
  | .some ob => ⟨(st.n, ob) :: st.H, st.n + 1⟩
  | .none => st

/-- An operation that changes no memory. -/
def quietOp (f : Fr) (st : St) (op : Op) : Option (V × St) :=
  match rdOp C st.H (evalO C f) op with
  | .some v => .some (v, st)
  | .none =>
    match alOp C st.n (evalO C f) op with
    | .some (v, ob) => .some (v, st.add ob)
    | .none => .none

def runOp (K : FuncId → List V → St → Option (V × St)) (f : Fr) (st : St) (o : Oper) : Option (Fr × St) :=
  match quietOp C f st o.op with
  | .some (v, st') => .some (f.put o.dst v, st')
  | .none =>
    match o.op with
    | .defer { callee := .value g, args, .. } =>
      match evalO C f g with
      | .func (.func k) fi ca => .some (({ f with d := (.func (.func k) [] ca, fi ++ args.toList.map (evalO C f)) :: f.d } : Fr).put o.dst (.tup []), st)
      | _ => .none
    | _ => (wrOp C K (evalO C f) st o.op).map fun (v, st') => (f.put o.dst v, st')

/-- Operations, one behind the other. -/
def runOps (K : FuncId → List V → St → Option (V × St)) (ops : Array Oper) : List Oper → Fr → St → Option (Fr × St)
  | [], f, st => .some (f, st)
  | o :: rest, f, st =>
    match wantedV f ops o with
    | .some true =>
      match runOp C K f st o with
      | .some (f', st') => runOps K ops rest f' st'
      | .none => .none
    | .some false => runOps K ops rest (f.put o.dst (.tup [])) st
    | .none => .none

end Go.Vm
