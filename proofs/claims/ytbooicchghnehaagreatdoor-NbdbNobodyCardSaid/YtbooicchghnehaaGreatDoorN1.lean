/- A deterministic evaluator of the model's code over values (the definitions): whatever it answers, a call answers (proved in the texts behind). -/
import Derived.Tactics
import Derived.Below
import Derived.Defers
import Derived.Laws.CopyRow
import Derived.Laws.Tables
import Derived.Laws.CopyOwn
import Derived.Laws.StructEq
import Derived.Laws.Append
import Derived.Laws.Entries
namespace Go.Vm
open Go

/-- What is known of the room behind a slice's end: nothing; that there is none; that this slice alone may use it. -/
inductive Tip where
  | none
  | full
  | own (t : Nat)
  deriving DecidableEq

/-- Values: as the model's, but that a slice bears its elements, and addresses are names of the evaluator's own. 'any': nothing is known. -/
inductive V where
  | any
  | bool (b : Bool)
  | int (k : IntKind) (n : Int)
  | str (s : List UInt8)
  | ptr (b off : Nat)
  | cptr (cs : List V)
  | nilptr
  | sl (tip : Tip) (xs : List V)
  | msl (b off len cap : Nat)
  | map (b : Nat)
  | nilmap
  | func (fn : Fn) (first captured : List V)
  | nilfunc
  /-- the function that a loop over a function hands to it -/
  | yield (i : Nat)
  | iface (t : TypeId) (v : V)
  | niliface
  | agg (cs : List V)
  | tup (vs : List V)
  deriving Inhabited

/-- What a name of the evaluator's heap stands for. -/
inductive Ob where
  | cells (cs : List V)
  | map (es : List (V × V))
  | tip (sz : Nat)
  /-- a map that is ranged over: its entries' stamps, and its clock -/
  | pin (es : List (V × V)) (bs : List Nat) (ck : Nat)
  /-- a range over a map: the map, its clock at the start, the stamps of what has been met -/
  | iter (mb since : Nat) (seen : List Nat)
  /-- a map of at most one entry that is ranged over: by which range -/
  | pin1 (es : List (V × V)) (ib : Nat)
  /-- a range over such a map: has its entry been met? -/
  | iter1 (mb : Nat) (done : Bool)
  /-- a range over no map -/
  | iter0
  /-- the rounds' calls that are put off: none -/
  | mark
  /-- a loop over a function: its frame at the start, its code, where it stands -/
  | loop (t : List (Nat × V)) (N : Nat) (ps : Array Tmp) (assign body : Code) (s : LoopState)
  deriving Inhabited

/-- The heap, and the next name. -/
structure St where
  H : List (Nat × Ob)
  n : Nat

def hget : List (Nat × Ob) → Nat → Option Ob
  | [], _ => .none
  | (i, o) :: r, b => if i == b then .some o else hget r b
/-- A map's entries. -/
def obMap : Ob → Option (List (V × V))
  | .map es => .some es
  | .pin1 es _ => .some es
  | .pin es _ _ => .some es
  | _ => .none
def hgetM (H : List (Nat × Ob)) (b : Nat) : Option (List (V × V)) := (hget H b).bind obMap
def hset : List (Nat × Ob) → Nat → Ob → List (Nat × Ob)
  | [], _, _ => []
  | (i, o) :: r, b, x => if i == b then (i, x) :: r else (i, o) :: hset r b x
def hdel : List (Nat × Ob) → Nat → List (Nat × Ob)
  | [], _ => []
  | (i, o) :: r, b => if i == b then r else (i, o) :: hdel r b
/-- The heap without the names from n on. -/
def hdrop (n : Nat) : List (Nat × Ob) → List (Nat × Ob)
  | [] => []
  | (i, o) :: r => if n ≤ i then hdrop n r else (i, o) :: r

/-- A frame: the temporaries, and the calls that are put off. -/
structure Fr where
  t : List (Nat × V)
  d : List (V × List V)

def tget : List (Nat × V) → Nat → V
  | [], _ => .any
  | (i, v) :: r, b => if i == b then v else tget r b
def tset : List (Nat × V) → Nat → V → List (Nat × V)
  | [], b, x => [(b, x)]
  | (i, v) :: r, b, x => if i == b then (i, x) :: r else (i, v) :: tset r b x
def Fr.put (f : Fr) (dst : Option Tmp) (v : V) : Fr :=
  match dst with
  | .some d => { f with t := tset f.t d v }
  | .none => f

def ofScalar : Value → V
  | .bool b => .bool b
  | .int k n => .int k n
  | .string s => .str s.data.toList
  | .pointer .none => .nilptr
  | .slice .none 0 0 => .sl .full []
  | .map .none => .nilmap
  | .func fn fi ca => if fi.isEmpty && ca.isEmpty then .func fn [] [] else .any
  | .nilFunc => .nilfunc
  | .nilIface => .niliface
  | _ => .any
def ofCell : Value → V
  | .iface t v => .iface t (ofScalar v)
  | v => ofScalar v
def ofVal : Value → V
  | .agg cs => if cs.toList.all (·.oneCell') then .agg (cs.toList.map ofCell) else .any
  | .tuple vs => .tup (vs.toList.map ofCell)
  | v => ofCell v

/-- The cells of a value (a tuple has none). -/
def cellsOf : V → Option (List V)
  | .agg cs => .some cs
  | .tup _ => .none
  | .any => .none
  | v => .some [v]
def ncells : V → Nat
  | .agg cs => cs.length
  | _ => 1

/-- Nothing is known of the room behind slices any more. -/
def stripCell : V → V
  | .sl _ xs => .sl .none xs
  | v => v
def stripAgg : V → V
  | .agg cs => .agg (cs.map stripCell)
  | v => stripCell v
def strip : V → V
  | .tup vs => .tup (vs.map stripAgg)
  | v => stripAgg v

/-- What the evaluator is told beside the program. -/
structure Cfg where
  P : Program
  /-- package-level variables -/
  glob : Nat → V
  /-- functions that are known by what they answer -/
  X : FuncId → List V → St → Option (V × St)
  /-- functions behind whose call what they made is kept -/
  keep : FuncId → Bool
  /-- functions whose answers' new memory never changes any more -/
  frz : FuncId → Bool
  /-- functions whose answers keep what is known of the room behind slices -/
  grow : FuncId → Bool
  /-- functions that are run with a memory of their own -/
  pure : FuncId → Bool
  /-- struct types whose values may be held against each other -/
  eqs : List TypeId
  /-- what holds of every world, as its first blocks say -/
  I : World → Prop := fun _ => True
  /-- types of slices that may be written once they have been appended to -/
  mutT : TypeId → Bool := fun _ => false
  lo : Nat := 0

variable (C : Cfg)

def evalO (f : Fr) : Operand → V
  | .tmp t => tget f.t t
  | .const v => ofVal v
  | .global g => C.glob g
  | .func k => .func (.func k) [] []

def isAggT (d : TypeDesc) : Bool :=
  match d with
  | .struct _ | .array _ _ => true
  | _ => false

/-- A type's size in cells. -/
def szOf (t : TypeId) : Option Nat := (C.P.info? t).map (·.size)
def byOf (t : TypeId) : Nat := ((C.P.info? t).map (·.bytes)).getD 0
def zeroV (t : TypeId) : Option V := ((C.P.info? t).bind (·.zero)).map ofVal

/-- The value of type t whose cells begin at a place. -/
def partV (t : TypeId) (cs : List V) (off : Nat) : Option V :=
  match C.P.underlying t with
  | .none => .none
  | .some d =>
    if isAggT d then
      match szOf C t with
      | .some s => if off + s ≤ cs.length then .some (.agg ((cs.drop off).take s)) else .none
      | .none => .none
    else cs[off]?

def putAt (cs : List V) (off : Nat) (vs : List V) : List V := cs.take off ++ vs ++ cs.drop (off + vs.length)

def fillV (place : Nat → Option (Nat × Nat)) (cs : List V) : List (Nat × V) → Option (List V)
  | [] => .some cs
  | (i, v) :: rest =>
    match place i, cellsOf v with
    | .some (off, size), .some vs =>
      if vs.length = size ∧ off + vs.length ≤ cs.length then fillV place (putAt cs off vs) rest else .none
    | _, _ => .none

def placesV (fields : List Field) : Option (List (Nat × Nat)) := fields.mapM fun f => (C.P.info? f.type).map fun i => (f.offset, i.size)

def buildV (t : TypeId) (parts : List (Nat × V)) : Option V :=
  match C.P.underlying t, zeroV C t with
  | .some (.struct fields), .some (.agg zs) =>
    match placesV C fields.toList with
    | .some places => (fillV (places[·]?) zs parts).map .agg
    | .none => .none
  | .some (.array _ elem), .some (.agg zs) =>
    match szOf C elem with
    | .some s => (fillV (fun i => .some (i * s, s)) zs parts).map .agg
    | .none => .none
  | _, _ => .none

def setAll (xs : List V) : List (Nat × V) → List V
  | [] => xs
  | (i, v) :: rest => setAll (xs.set i (stripAgg v)) rest

/-- Elements of slices: each of so many cells. -/
def szOk (s : Nat) (xs : List V) : Bool :=
  match xs with
  | [] => true
  | x :: _ => ncells x == s

def isElem : V → Bool
  | .tup _ | .any => false
  | _ => true

def buildSliceV (t : TypeId) (len : Nat) (parts : List (Nat × V)) : Option V :=
  match C.P.underlying t with
  | .some (.slice elem) =>
    match szOf C elem, zeroV C elem with
    | .some s, .some z =>
      if 0 < s ∧ len * s ≤ 2 ^ 24 ∧ isElem z = true ∧ ncells z = s ∧ parts.all (fun p => isElem p.2 && ncells p.2 == s && decide (p.1 < len)) = true
      then .some (.sl .full (setAll (List.replicate len (stripAgg z)) parts)) else .none
    | _, _ => .none
  | _ => .none

/-- Are keys of maps the same? -/
def eqCell : V → V → Option Bool
  | .int k a, .int k' b => if k = k' then .some (a == b) else .none
  | .str a, .str b => .some (a == b)
  | _, _ => .none

/-- Are values of a type that is no struct the same? -/
def eqU (u : TypeDesc) (x y : V) : Option Bool :=
  match u, x, y with
  | .bool, .bool a, .bool b => .some (a == b)
  | .int _, .int k a, .int k' b => if k = k' then .some (a == b) else .none
  | .string, .str a, .str b => .some (a == b)
  | .pointer _, .nilptr, .nilptr => .some true
  | .pointer _, .nilptr, .ptr _ _ | .pointer _, .nilptr, .cptr _ | .pointer _, .ptr _ _, .nilptr | .pointer _, .cptr _, .nilptr => .some false
  | .interface _, .niliface, .iface _ _ | .interface _, .iface _ _, .niliface => .some false
  | .map _ _, .nilmap, .nilmap => .some true
  | .map _ _, .nilmap, .map _ | .map _ _, .map _, .nilmap => .some false
  | .func _ _ _, .nilfunc, .nilfunc => .some true
  | .func _ _ _, .nilfunc, .func _ _ _ | .func _ _ _, .func _ _ _, .nilfunc => .some false
  | _, _, _ => .none

def bytesLess : List UInt8 → List UInt8 → Bool := Op.bytesLess

def intBin (op : BinOp) (k : IntKind) (a b : Int) : Option V :=
  match op with
  | .add => .some (.int k (k.wrap (a + b)))
  | .sub => .some (.int k (k.wrap (a - b)))
  | .mul => .some (.int k (k.wrap (a * b)))
  | .quo => if b = 0 then .none else .some (.int k (k.wrap (a.tdiv b)))
  | .rem => if b = 0 then .none else .some (.int k (a.tmod b))
  | .and => .some (.int k (k.wrap (BitVec.ofInt k.bits a &&& BitVec.ofInt k.bits b).toNat))
  | .or => .some (.int k (k.wrap (BitVec.ofInt k.bits a ||| BitVec.ofInt k.bits b).toNat))
  | .xor => .some (.int k (k.wrap (BitVec.ofInt k.bits a ^^^ BitVec.ofInt k.bits b).toNat))
  | .andNot => .some (.int k (k.wrap (BitVec.ofInt k.bits a &&& ~~~ BitVec.ofInt k.bits b).toNat))
  | .eql => .some (.bool (a == b))
  | .neq => .some (.bool (a != b))
  | .lss => .some (.bool (decide (a < b)))
  | .leq => .some (.bool (decide (a ≤ b)))
  | .gtr => .some (.bool (decide (a > b)))
  | .geq => .some (.bool (decide (a ≥ b)))
  | _ => .none
def shiftBin (op : BinOp) (k : IntKind) (a b : Int) : Option V :=
  if b < 0 then .none else
  match op with
  | .shl => .some (.int k (k.wrap (a * 2 ^ (min b.toNat k.bits))))
  | .shr => .some (.int k (a.fdiv (2 ^ (min b.toNat k.bits))))
  | _ => .none
def strBin (op : BinOp) (a b : List UInt8) : Option V :=
  match op with
  | .add => if a.length + b.length ≤ 2 ^ 62 then .some (.str (a ++ b)) else .none
  | .eql => .some (.bool (a == b))
  | .neq => .some (.bool (!(a == b)))
  | .lss => .some (.bool (bytesLess a b))
  | .leq => .some (.bool (bytesLess a b || a == b))
  | .gtr => .some (.bool (!(bytesLess a b || a == b)))
  | .geq => .some (.bool (!bytesLess a b))
  | _ => .none

/-- Are the fields the same, one behind the other? -/
def eqF (E : TypeId → V → V → Option Bool) : List Field → List V → List V → Option Bool
  | [], _, _ => .some true
  | f :: fs, xs, ys =>
    if f.name = "_" then eqF E fs xs ys else
    match partV C f.type xs f.offset, partV C f.type ys f.offset with
    | .some a, .some b =>
      match E f.type a b with
      | .some true => eqF E fs xs ys
      | .some false => .some false
      | .none => .none
    | _, _ => .none
/-- Are two values of a type the same? -/
def eqT : Nat → TypeId → V → V → Option Bool
  | 0, _, _, _ => .none
  | d + 1, t, x, y =>
    match C.P.underlying t with
    | .none => .none
    | .some (.struct fs) =>
      match x, y with
      | .agg xs, .agg ys => if C.eqs.contains t then eqF C (eqT d) fs.toList xs ys else .none
      | _, _ => .none
    | .some u => eqU u x y

/-- Are two interfaces' values the same (numbers and texts)? -/
def ifaceEq (tx : TypeId) (vx : V) (ty : TypeId) (vy : V) : Option Bool :=
  if tx = ty then
    match C.P.info? tx, C.P.underlying tx, vx, vy with
    | .some i, .some (.int _), .int k a, .int k' b => if i.comparable = true ∧ k = k' then .some (a == b) else .none
    | .some i, .some .string, .str a, .str b => if i.comparable = true then .some (a == b) else .none
    | _, _, _, _ => .none
  else .some false

/-- 'x op y'; nils: whether one of them is the word nil. -/
def binV (nils : Bool) (op : BinOp) (t : TypeId) (x y : V) : Option V :=
  match x, y with
  | .int k a, .int k' b =>
    match op with
    | .shl | .shr => shiftBin op k a b
    | _ => if k = k' then intBin op k a b else .none
  | .str a, .str b => strBin op a b
  | .niliface, .niliface =>
    match C.P.underlying t with
    | .some (.interface _) =>
      if nils then
        match op with
        | .eql => .some (.bool true)
        | .neq => .some (.bool false)
        | _ => .none
      else .none
    | _ => .none
  | .iface tx vx, .iface ty vy =>
    match C.P.underlying t with
    | .some (.interface _) =>
      match op with
      | .eql => (ifaceEq C tx vx ty vy).map fun r => .bool r
      | .neq => (ifaceEq C tx vx ty vy).map fun r => .bool (!r)
      | _ => .none
    | _ => .none
  | _, _ =>
    match op with
    | .eql => (eqT C 9 t x y).map fun r => .bool r
    | .neq => (eqT C 9 t x y).map fun r => .bool (!r)
    | _ => .none

def unV (op : UnOp) (x : V) : Option V :=
  match op, x with
  | .neg, .int k n => .some (.int k (k.wrap (0 - n)))
  | .xor, .int k n => .some (.int k (k.wrap (BitVec.ofInt k.bits (if k.signed then -1 else k.max) ^^^ BitVec.ofInt k.bits n).toNat))
  | .not, .bool b => .some (.bool (!b))
  | _, _ => .none

/-- A type of bytes. -/
def isU8 (t : TypeId) : Bool :=
  match C.P.underlying t with
  | .some (.int .u8) => true
  | _ => false

/-- Bytes as cells, and back. -/
def ofBytes (s : List UInt8) : List V := s.map fun b => .int .u8 b.toNat
def toBytes : List V → Option (List UInt8)
  | [] => .some []
  | .int .u8 n :: r => (toBytes r).map (UInt8.ofNat n.toNat :: ·)
  | _ => .none

def convV (H : List (Nat × Ob)) (src dst : TypeId) (x : V) : Option V :=
  match C.P.underlying src, C.P.underlying dst, x with
  | .some _, .some (.int k), .int _ n => .some (.int k (k.wrap n))
  | .some (.slice e), .some .string, .sl _ xs => if isU8 C e = true then (toBytes xs).map .str else .none
  | .some (.slice e), .some .string, .msl b off len _ =>
    match hget H b with
    | .some (.cells cs) => if isU8 C e = true ∧ off + len ≤ cs.length then (toBytes ((cs.drop off).take len)).map .str else .none
    | _ => .none
  | .some _, .some .string, .str s => .some (.str s)
  | .some _, .some .string, .int _ n => if 0 ≤ n ∧ n < 128 then .some (.str [UInt8.ofNat n.toNat]) else .none
  | _, _, _ => .none

def asIntV : V → Option Int
  | .int _ n => .some n
  | _ => .none

/-- A bound that is given, or none. -/
def bndV : Option V → Option (Option Int)
  | .none => .some .none
  | .some v => (asIntV v).map .some

/-- The bounds of a slice expression without a third index. -/
def boundsV (len : Nat) (lo hi : Option V) : Option (Nat × Nat) :=
  match bndV lo, bndV hi with
  | .some l, .some h => if 0 ≤ l.getD 0 ∧ l.getD 0 ≤ h.getD len ∧ h.getD len ≤ len then .some ((l.getD 0).toNat, (h.getD len).toNat) else .none
  | _, _ => .none

/-- The room of a slice that is not known. -/
def unk : Nat := 18446744073709551616
/-- The room of a slice that begins a row of its own: not known, but all of it is there. -/
def ownC (s : Nat) : Nat := 18446744073709551617 + s

def sliceV (t : TypeId) (x : V) (lo hi : Option V) : Option V :=
  match C.P.underlying t, x with
  | .some .string, .str s => (boundsV s.length lo hi).map fun (l, h) => .str ((s.take h).drop l)
  | .some (.slice elem), .sl tip xs =>
    match szOf C elem, boundsV xs.length lo hi with
    | .some s, .some (l, h) =>
      if szOk s xs = true ∧ 0 < s then .some (.sl (if h = xs.length ∧ l < h then tip else .none) ((xs.take h).drop l)) else .none
    | _, _ => .none
  | .some (.slice elem), .msl b off len cap =>
    match szOf C elem, boundsV len lo hi with
    | .some s, .some (l, h) => if 0 < s then (if l < h then .some (.msl b (off + l * s) (h - l) (if cap < unk then cap - l else unk)) else .some (.sl .none [])) else .none
    | _, _ => .none
  | .some (.array n elem), .ptr b off =>
    match szOf C elem, boundsV n lo hi with
    | .some s, .some (l, h) => if 0 < s ∧ n < unk then (if l < h then .some (.msl b (off + l * s) (h - l) (n - l)) else .some (.sl .none [])) else .none
    | _, _ => .none
  | _, _ => .none

/-- A slice expression with a third index. -/
def slice3V (t : TypeId) (x : V) (lo : Option V) (hi mx : V) : Option V :=
  match C.P.underlying t, bndV lo, asIntV hi, asIntV mx with
  | .some (.slice elem), .some l0, .some h, .some m =>
    match szOf C elem, x with
    | .some s, .sl _ xs =>
      if szOk s xs = true ∧ 0 < s ∧ 0 ≤ l0.getD 0 ∧ l0.getD 0 ≤ h ∧ h ≤ m ∧ m ≤ xs.length then .some (.sl (if h = m then .full else .none) ((xs.take h.toNat).drop (l0.getD 0).toNat)) else .none
    | .some s, .msl b off len _ =>
      if 0 < s ∧ 0 ≤ l0.getD 0 ∧ l0.getD 0 ≤ h ∧ h ≤ m ∧ m ≤ len ∧ m < unk then
        (if l0.getD 0 < h then .some (.msl b (off + (l0.getD 0).toNat * s) (h.toNat - (l0.getD 0).toNat) (m.toNat - (l0.getD 0).toNat)) else .some (.sl (if h = m then .full else .none) [])) else .none
    | _, _ => .none
  | _, _, _, _ => .none

def indexAddrV (t : TypeId) (x ix : V) : Option V :=
  match C.P.underlying t, x, ix with
  | .some (.slice elem), .sl _ xs, .int _ i =>
    match szOf C elem with
    | .some s => if 0 ≤ i ∧ 0 < s ∧ szOk s xs = true then
        match xs[i.toNat]? with
        | .some x => (cellsOf x).map .cptr
        | .none => .none
      else .none
    | .none => .none
  | .some (.slice elem), .msl b off len _, .int _ i =>
    match szOf C elem with
    | .some s => if 0 ≤ i ∧ i < len ∧ 0 < s then .some (.ptr b (off + i.toNat * s)) else .none
    | .none => .none
  | .some (.array n elem), .ptr b off, .int _ i =>
    match szOf C elem with
    | .some s => if 0 ≤ i ∧ i < n ∧ 0 < s then .some (.ptr b (off + i.toNat * s)) else .none
    | .none => .none
  | .some (.array n elem), .cptr cs, .int _ i =>
    match szOf C elem with
    | .some s => if 0 ≤ i ∧ i < n ∧ 0 < s ∧ i.toNat * s + s ≤ cs.length then .some (.cptr ((cs.drop (i.toNat * s)).take s)) else .none
    | .none => .none
  | _, _, _ => .none

def indexV (t : TypeId) (x ix : V) : Option V :=
  match C.P.underlying t, x, ix with
  | .some .string, .str s, .int _ i => if 0 ≤ i then (s[i.toNat]?).map fun b => .int .u8 b.toNat else .none
  | .some (.array n elem), .agg cs, .int _ i =>
    match szOf C elem with
    | .some s => if 0 ≤ i ∧ i < n ∧ 0 < s then partV C elem cs (i.toNat * s) else .none
    | .none => .none
  | _, _, _ => .none

def fieldV (t : TypeId) (x : V) (i : Nat) : Option V :=
  match C.P.underlying t, x with
  | .some (.struct fields), .agg cs =>
    match fields[i]? with
    | .some f => partV C f.type cs f.offset
    | .none => .none
  | _, _ => .none

def fieldAddrV (t : TypeId) (x : V) (i : Nat) : Option V :=
  match C.P.underlying t with
  | .some (.struct fields) =>
    match fields[i]? with
    | .some f =>
      match szOf C f.type, x with
      | .some s, .ptr b off => if 0 < s then .some (.ptr b (off + f.offset)) else .none
      | .some s, .cptr cs => if 0 < s ∧ f.offset + s ≤ cs.length then .some (.cptr ((cs.drop f.offset).take s)) else .none
      | _, _ => .none
    | .none => .none
  | _ => .none

def loadV (H : List (Nat × Ob)) (t : TypeId) (a : V) : Option V :=
  match a with
  | .cptr cs => partV C t cs 0
  | .ptr b off =>
    match hget H b with
    | .some (.cells cs) => partV C t cs off
    | _ => .none
  | _ => .none

def nilCheckV : V → Option V
  | .ptr b off => .some (.ptr b off)
  | .cptr cs => .some (.cptr cs)
  | .func (.func k) fi ca => .some (.func (.func k) fi ca)
  | .iface t v => .some (.iface t v)
  | _ => .none

def makeIfaceV (t : TypeId) (x : V) : Option V :=
  match C.P.underlying t with
  | .some (.interface _) => .none
  | .some _ => .some (.iface t x)
  | .none => .none

def findV (k : V) : List (V × V) → Option (Option V)
  | [] => .some .none
  | (k', v) :: r =>
    match eqCell k k' with
    | .some true => .some (.some v)
    | .some false => findV k r
    | .none => .none

/-- The kinds of maps' keys that the evaluator knows. -/
def keyT (d : TypeDesc) (k : V) : Bool :=
  match d, k with
  | .int _, .int _ _ | .string, .str _ => true
  | _, _ => false

def lookupV (H : List (Nat × Ob)) (t : TypeId) (x ix : V) (ok : Bool) : Option V :=
  match C.P.underlying t with
  | .some (.map key elem) =>
    match C.P.underlying key, zeroV C elem with
    | .some kd, .some z =>
      if keyT kd ix = true then
        match (match x with
               | .nilmap => .some .none
               | .map b => match hgetM H b with
                 | .some es => findV ix es
                 | _ => .none
               | _ => .none : Option (Option V)) with
        | .some (.some v) => .some (if ok then .tup [v, .bool true] else v)
        | .some .none => .some (if ok then .tup [z, .bool false] else z)
        | .none => .none
      else .none
    | _, _ => .none
  | _ => .none

def lenV (H : List (Nat × Ob)) (t : TypeId) (x : V) : Option V :=
  match C.P.underlying t, x with
  | .some .string, .str s => .some (.int .i64 s.length)
  | .some (.slice _), .sl _ xs => .some (.int .i64 xs.length)
  | .some (.slice _), .msl _ _ len _ => .some (.int .i64 len)
  | .some (.array n _), _ => .some (.int .i64 n)
  | .some (.map _ _), .nilmap => .some (.int .i64 0)
  | .some (.map _ _), .map b =>
    match hgetM H b with
    | .some es => .some (.int .i64 es.length)
    | _ => .none
  | _, _ => .none

def isNilWord : Operand → Bool
  | .const _ => true
  | _ => false

/-- What an operation yields that leaves memory alone. -/
def rdOp (H : List (Nat × Ob)) (ρ : Operand → V) : Op → Option V
  | .move x | .assign x => .some (ρ x)
  | .pick c a b =>
    match ρ c with
    | .bool t => .some (if t then ρ a else ρ b)
    | _ => .none
  | .build t parts => buildV C t (parts.toList.map fun (i, x) => (i, ρ x))
  | .load t a => loadV C H t (ρ a)
  | .nilCheck x => nilCheckV (ρ x)
  | .binOp op t x y _ => binV C (isNilWord x || isNilWord y) op t (ρ x) (ρ y)
  | .unOp op _ x => unV op (ρ x)
  | .convert s d x => convV C H s d (ρ x)
  | .makeInterface t x => makeIfaceV C t (ρ x)
  | .makeFunc fn first captured => .some (.func fn (first.toList.map ρ) (captured.toList.map ρ))
  | .slice t x lo hi .none => sliceV C t (ρ x) (lo.map ρ) (hi.map ρ)
  | .slice t x lo (.some hi) (.some mx) => slice3V C t (ρ x) (lo.map ρ) (ρ hi) (ρ mx)
  | .fieldAddr t x i => fieldAddrV C t (ρ x) i
  | .field t x i => fieldV C t (ρ x) i
  | .indexAddr t x ix => indexAddrV C t (ρ x) (ρ ix)
  | .index t x ix => indexV C t (ρ x) (ρ ix)
  | .lookup t x ix ok => lookupV C H t (ρ x) (ρ ix) ok
  | .extract x i =>
    match ρ x with
    | .tup vs => vs[i]?
    | _ => .none
  | .call { callee := .builtin .len, args, argTypes } =>
    match args.toList, argTypes.toList with
    | [x], [t] => lenV C H t (ρ x)
    | _, _ => .none
  | _ => .none

/-- What an operation yields that makes memory, and changes none: the value, and what is made under the next name. -/
def alOp (n : Nat) (ρ : Operand → V) : Op → Option (V × Option Ob)
  | .alloc t => (zeroV C t).bind fun z => (cellsOf z).map fun cs => (.ptr n 0, .some (.cells cs))
  | .box _ x => (cellsOf (ρ x)).map fun cs => (.ptr n 0, .some (.cells cs))
  | .buildSlice t len parts => (buildSliceV C t len (parts.toList.map fun (i, x) => (i, ρ x))).map fun v => (v, .none)
  | .makeMap _ .none => .some (.map n, .some (.map []))
  | .convert s d x =>
    match C.P.underlying s, C.P.underlying d, ρ x with
    | .some _, .some (.slice e), .str l => if isU8 C e = true ∧ l.length ≤ 2 ^ 47 then .some (.sl (.own n) (ofBytes l), .some (.tip 1)) else .none
    | _, _, _ => .none
  | .makeSlice t l c =>
    match C.P.underlying t, ρ l, ρ c with
    | .some (.slice e), .int _ i, .int _ j =>
      match szOf C e, (zeroV C e).bind cellsOf with
      | .some s, .some zs =>
        if 0 ≤ i ∧ i ≤ j ∧ 0 < s ∧ zs.length = s ∧ j * byOf C e ≤ 2 ^ 47 ∧ j < 2 ^ 62 then
          if i = j then .some (.msl n 0 i.toNat i.toNat, .some (.cells (List.replicate i.toNat zs).flatten))
          else if i = 0 then .some (.sl (.own n) [], .some (.tip s)) else .none
        else .none
      | _, _ => .none
    | _, _, _ => .none
  | _ => .none

def storeH (H : List (Nat × Ob)) (t : TypeId) (a x : V) : Option (List (Nat × Ob)) :=
  match a, szOf C t, cellsOf x with
  | .ptr b off, .some s, .some vs =>
    match hget H b with
    | .some (.cells cs) => if vs.length = s ∧ off + vs.length ≤ cs.length then .some (hset H b (.cells (putAt cs off vs))) else .none
    | _ => .none
  | _, _, _ => .none

def setMap (k v : V) : List (V × V) → Option (List (V × V))
  | [] => .some [(k, v)]
  | (k', v') :: r =>
    match eqCell k k' with
    | .some true => .some ((k, v) :: r)
    | .some false => (setMap k v r).map ((k', v') :: ·)
    | .none => .none

/-! Maps whose keys are structs. -/
def plainC : V → Bool
  | .int _ _ | .str _ | .bool _ => true
  | _ => false
def plainK : V → Bool
  | .agg cs => cs.all plainC
  | _ => false
def sameC : V → V → Bool
  | .int k a, .int k' b => decide (k = k') && a == b
  | .str a, .str b => a == b
  | .bool a, .bool b => a == b
  | _, _ => false
def sameL : List V → List V → Bool
  | [], [] => true
  | a :: r, b :: q => sameC a b && sameL r q
  | _, _ => false
def sameK : V → V → Bool
  | .agg a, .agg b => sameL a b
  | _, _ => false
/-- May a value be a key of a type? -/
def ckK : Nat → TypeId → V → Bool
  | 0, _, _ => false
  | n + 1, t, x =>
    match C.P.underlying t, x with
    | .some (.struct fs), .agg cs => fs.toList.all fun f => match partV C f.type cs f.offset with | .some p => ckK n f.type p | .none => false
    | .some (.int _), .int _ _ | .some .string, .str _ | .some .bool, .bool _ => true
    | _, _ => false
def keyG (key : TypeId) (kd : TypeDesc) (k : V) : Bool :=
  match kd with
  | .struct _ => plainK k && ckK C 9 key k
  | _ => false
def eqK (key : TypeId) (a b : V) : Option Bool :=
  match eqT C 9 key a b with
  | .some true => if sameK a b = true then .some true else .none
  | r => r
def findG (key : TypeId) (k : V) : List (V × V) → Option (Option V)
  | [] => .some .none
  | (k', v) :: r =>
    match eqK C key k k' with
    | .some true => .some (.some v)
    | .some false => findG key k r
    | .none => .none
def lookupG (H : List (Nat × Ob)) (t : TypeId) (x ix : V) (ok : Bool) : Option V :=
  match C.P.underlying t with
  | .some (.map key elem) =>
    match C.P.underlying key, zeroV C elem with
    | .some kd, .some z =>
      if keyG C key kd ix = true then
        match (match x with
               | .nilmap => .some .none
               | .map b => match hgetM H b with
                 | .some es => findG C key ix es
                 | _ => .none
               | _ => .none : Option (Option V)) with
        | .some (.some v) => .some (if ok then .tup [v, .bool true] else v)
        | .some .none => .some (if ok then .tup [z, .bool false] else z)
        | .none => .none
      else .none
    | _, _ => .none
  | _ => .none
def setG (key : TypeId) (k v : V) : List (V × V) → Option (List (V × V))
  | [] => .some [(k, v)]
  | (k', v') :: r =>
    match eqK C key k k' with
    | .some true => .some ((k, v) :: r)
    | .some false => (setG key k v r).map ((k', v') :: ·)
    | .none => .none
/-- The entries without a key's. -/
def delG (E : V → V → Option Bool) (k : V) : List (V × V) → Option (List (V × V))
  | [] => .some []
  | (k', v') :: r =>
    match E k k' with
    | .some true => .some r
    | .some false => (delG E k r).map ((k', v') :: ·)
    | .none => .none
def delH (H : List (Nat × Ob)) (t : TypeId) (m k : V) : Option (List (Nat × Ob)) :=
  match C.P.underlying t, m with
  | .some (.map key _), .map b =>
    match C.P.underlying key, hgetM H b with
    | .some kd, .some es =>
      if keyT kd k = true then (delG eqCell k es).map fun es' => hset H b (.map es')
      else if keyG C key kd k = true then (delG (eqK C key) k es).map fun es' => hset H b (.map es')
      else .none
    | _, _ => .none
  | _, _ => .none
/-- x.(a), of a type that is no interface's. -/
def typeAssertV (x : V) (a : TypeId) (ok : Bool) : Option V :=
  match C.P.underlying a with
  | .none | .some (.interface _) => .none
  | .some _ =>
    match x with
    | .iface t v => if t = a then .some (if ok then .tup [v, .bool true] else v) else if ok then (zeroV C a).map fun z => .tup [z, .bool false] else .none
    | .niliface => if ok then (zeroV C a).map fun z => .tup [z, .bool false] else .none
    | _ => .none

def mapUpdH (H : List (Nat × Ob)) (t : TypeId) (m k v : V) : Option (List (Nat × Ob)) :=
  match C.P.underlying t, m with
  | .some (.map key _), .map b =>
    match C.P.underlying key, hgetM H b with
    | .some kd, .some es =>
      if keyT kd k = true then (setMap k v es).map fun es' => hset H b (.map es')
      else if keyG C key kd k = true then (setG C key k v es).map fun es' => hset H b (.map es') else .none
    | _, _ => .none
  | _, _ => .none

/-- The elements that an append adds. -/
def addedV (s : Nat) : V → Option (List V)
  | .sl _ ys => if szOk s ys = true then .some ys else .none
  | .str l => if s = 1 then .some (ofBytes l) else .none
  | _ => .none

/-- A type's zero value has so many cells. -/
def zeroOk (t : TypeId) (s : Nat) : Bool :=
  match zeroV C t with
  | .some z => isElem z && ncells z == s
  | .none => false

def elemCells : V → List V
  | .agg cs => cs
  | v => [v]
/-- Elements' cells. -/
def flatE (xs : List V) : List V := xs.flatMap elemCells

/-- The elements that an append adds: how many, and their cells. -/
def addedH (H : List (Nat × Ob)) (s : Nat) : V → Option (Nat × List V)
  | .sl _ ys => if szOk s ys = true then .some (ys.length, flatE ys) else .none
  | .str l => if s = 1 then .some (l.length, ofBytes l) else .none
  | .msl b off len _ =>
    match hget H b with
    | .some (.cells cs) => if off + len * s ≤ cs.length then .some (len, (cs.drop off).take (len * s)) else .none
    | _ => .none
  | _ => .none

/-- append to a slice that may be written. -/
def appendM (st : St) (t : TypeId) (x y : V) : Option (V × St) :=
  match C.P.underlying t with
  | .some (.slice elem) =>
    match szOf C elem with
    | .some s =>
      match addedH st.H s y with
      | .some (k, ycs) =>
        if k = 0 then .some (x, st)
        else
          match x with
          | .msl b off len cap =>
            match hget st.H b with
            | .some (.cells cs) =>
              if off = 0 ∧ cap = ownC s ∧ cs.length = len * s ∧ 0 < s ∧ zeroOk C elem s = true ∧ (len + k) * byOf C elem ≤ 2 ^ 47 ∧ len + k ≤ 2 ^ 47 then
                .some (.msl st.n 0 (len + k) (ownC s), ⟨(st.n, .cells (cs ++ ycs.map stripCell)) :: hdel st.H b, st.n + 1⟩)
              else .none
            | _ => .none
          | .sl .full xs =>
            if szOk s xs = true ∧ 0 < s ∧ zeroOk C elem s = true ∧ (xs.length + k) * byOf C elem ≤ 2 ^ 47 ∧ xs.length + k ≤ 2 ^ 47 then
              .some (.msl st.n 0 (xs.length + k) (ownC s), ⟨(st.n, .cells ((flatE xs ++ ycs).map stripCell)) :: st.H, st.n + 1⟩)
            else .none
          | _ => .none
      | .none => .none
    | .none => .none
  | _ => .none

def appendV (st : St) (t : TypeId) (x y : V) : Option (V × St) :=
  match C.P.underlying t, x with
  | .some (.slice _), .msl _ _ _ _ => appendM C st t x y
  | .some (.slice elem), .sl tip xs =>
    match szOf C elem with
    | .some s =>
      match addedV s y with
      | .some ys =>
        if ys.isEmpty then .some (.sl tip xs, st)
        else if 0 < s ∧ szOk s xs = true ∧ zeroOk C elem s = true ∧ (xs.length + ys.length) * byOf C elem ≤ 2 ^ 47 ∧ xs.length + ys.length ≤ 2 ^ 47 then
          match tip with
          | .none => .none
          | .full => if C.mutT t = true then appendM C st t x y else .some (.sl (.own st.n) (xs ++ ys.map stripAgg), ⟨(st.n, .tip s) :: st.H, st.n + 1⟩)
          | .own b =>
            match hget st.H b with
            | .some (.tip s') => if s' = s then .some (.sl (.own st.n) (xs ++ ys.map stripAgg), ⟨(st.n, .tip s) :: hdel st.H b, st.n + 1⟩) else .none
            | _ => .none
        else .none
      | .none => .none
    | .none => .none
  | _, _ => .none

/-- The function and the receiver of a call by an interface's method. -/
def methodV (t : TypeId) (v : V) (name : String) : Option (FuncId × V) :=
  match (C.P.info? t).bind fun i => i.methods.find? (·.name == name) with
  | .some m =>
    if m.path.isEmpty then
      match m.func, C.P.underlying t with
      | .some (f, true), .some (.pointer _) => .some (f, v)
      | .some (_, true), _ => .none
      | .some (_, false), .some (.pointer _) => .none
      | .some (f, false), .some _ => .some (f, v)
      | _, _ => .none
    else .none
  | .none => .none

/-- Ranges over maps of at most one entry. -/
def rangeV (st : St) (t : TypeId) (x : V) : Option (V × St) :=
  match C.P.underlying t, x with
  | .some (.map _ _), .map mb =>
    match hgetM st.H mb with
    | .some es => if es.length ≤ 1 then .some (.ptr st.n 0, ⟨(st.n, .iter1 mb false) :: hset st.H mb (.pin1 es st.n), st.n + 1⟩) else .none
    | .none => .none
  | .some (.map _ _), .nilmap => .some (.ptr st.n 0, ⟨(st.n, .iter0) :: st.H, st.n + 1⟩)
  | _, _ => .none
def nextV (st : St) (it : V) : Option (V × St) :=
  match it with
  | .ptr ib 0 =>
    match hget st.H ib with
    | .some .iter0 => .some (.tup [.bool false], st)
    | .some (.iter1 mb done) =>
      match hget st.H mb with
      | .some (.pin1 es jb) =>
        if jb = ib then
          match es, done with
          | [e], false => .some (.tup [.bool true, e.1, e.2], ⟨hset st.H ib (.iter1 mb true), st.n⟩)
          | _, _ => .some (.tup [.bool false], ⟨hset st.H mb (.map es), st.n⟩)
        else .none
      | _ => .none
    | _ => .none
  | _ => .none
def entryV (st : St) (it : V) : Option (V × St) :=
  match it with
  | .ptr ib 0 =>
    match hget st.H ib with
    | .some (.iter1 mb true) =>
      match hget st.H mb with
      | .some (.pin1 [e] jb) => if jb = ib then .some (.tup [e.1, e.2], st) else .none
      | _ => .none
    | _ => .none
  | _ => .none

/-- The word nil, of a slice's type. -/
def isNilSl : Operand → Bool
  | .const (.slice .none 0 0) => true
  | _ => false
/-- A slice that has elements, held against nil. -/
def nilSlV (op : BinOp) : V → Option V
  | .sl _ (_ :: _) | .msl _ _ (_ + 1) _ =>
    match op with
    | .eql => .some (.bool false)
    | .neq => .some (.bool true)
    | _ => .none
  | _ => .none

/-- What an operation yields that may change memory. -/
def wrOp (K : FuncId → List V → St → Option (V × St)) (ρ : Operand → V) (st : St) : Op → Option (V × St)
  | .store t a x => (storeH C st.H t (ρ a) (ρ x)).map fun H => (.tup [], { st with H })
  | .mapUpdate t m k x | .insert t m k x => (mapUpdH C st.H t (ρ m) (ρ k) (ρ x)).map fun H => (.tup [], { st with H })
  | .range t x => rangeV C st t (ρ x)
  | .next it false => nextV st (ρ it)
  | .entry it => entryV st (ρ it)
  | .lookup t x ix ok => (lookupG C st.H t (ρ x) (ρ ix) ok).map fun v => (v, st)
  | .typeAssert x _ a ok => (typeAssertV C (ρ x) a ok).map fun v => (v, st)
  | .binOp op t x y _ =>
    if isNilSl y = true then
      match C.P.underlying t with
      | .some (.slice _) => (nilSlV op (ρ x)).map fun v => (v, st)
      | _ => .none
    else .none
  | .call { callee := .builtin .append, args, argTypes } =>
    match args.toList, argTypes.toList with
    | [x, y], [t, u] =>
      match C.P.underlying u with
      | .some (.slice _) | .some .string => appendV C st t (ρ x) (ρ y)
      | _ => .none
    | _, _ => .none
  | .call { callee := .builtin .delete, args, argTypes } =>
    match args.toList, argTypes.toList with
    | [m, k], [t, _] => (delH C st.H t (ρ m) (ρ k)).map fun H => (.tup [], { st with H })
    | _, _ => .none
  | .call { callee := .value g, args, .. } =>
    match ρ g with
    | .func (.func k) fi ca => K k (fi ++ args.toList.map ρ ++ ca) st
    | _ => .none
  | .call { callee := .invoke r name, args, .. } =>
    match ρ r with
    | .iface t v =>
      match methodV C t v name with
      | .some (k, x) => K k (x :: args.toList.map ρ) st
      | .none => .none
    | _ => .none
  | _ => .none

/-- Is an operation to be done (it may be guarded)? -/
def wantedV (f : Fr) (ops : Array Oper) (o : Oper) : Option Bool :=
  match o.guard with
  | .none => .some true
  | .some (j, want) =>
    match (ops[j]?).bind (·.dst) with
    | .none => .some false
    | .some d =>
      match tget f.t d with
      | .bool b => .some (b == want)
      | .tup _ => .some false
      | _ => .none

def St.add (st : St) : Option Ob → St
  | .some ob => ⟨(st.n, ob) :: st.H, st.n + 1⟩
  | .none => st

/-- An operation that changes no memory. -/
def quietOp (f : Fr) (st : St) (op : Op) : Option (V × St) :=
  match rdOp C st.H (evalO C f) op with
  | .some v => .some (v, st)
  | .none =>
    match alOp C st.n (evalO C f) op with
    | .some (v, ob) => .some (v, st.add ob)
    | .none => .none

def runOp (K : FuncId → List V → St → Option (V × St)) (f : Fr) (st : St) (o : Oper) : Option (Fr × St) :=
  match quietOp C f st o.op with
  | .some (v, st') => .some (f.put o.dst v, st')
  | .none =>
    match o.op with
    | .defer { callee := .value g, args, .. } =>
      match evalO C f g with
      | .func (.func k) fi ca => .some (({ f with d := (.func (.func k) [] ca, fi ++ args.toList.map (evalO C f)) :: f.d } : Fr).put o.dst (.tup []), st)
      | _ => .none
    | _ => (wrOp C K (evalO C f) st o.op).map fun (v, st') => (f.put o.dst v, st')

/-- Operations, one behind the other. -/
def runOps (K : FuncId → List V → St → Option (V × St)) (ops : Array Oper) : List Oper → Fr → St → Option (Fr × St)
  | [], f, st => .some (f, st)
  | o :: rest, f, st =>
    match wantedV f ops o with
    | .some true =>
      match runOp C K f st o with
      | .some (f', st') => runOps K ops rest f' st'
      | .none => .none
    | .some false => runOps K ops rest (f.put o.dst (.tup [])) st
    | .none => .none

end Go.Vm
/- How the evaluator's values and heap stand to the model's values and memory. -/
set_option linter.unusedSimpArgs false
set_option linter.unusedVariables false
namespace Go.Vm
open Go Go.RowKit

/-- Which block a name stands for; of a tip: its end, the block's size, an element's size; and the cells that never change any more. -/
structure Ghost where
  κ : Nat → Option Nat
  θ : Nat → Option (Nat × Nat × Nat)
  st : Nat → Nat → Option Value

structure Ghost.le (g g' : Ghost) : Prop where
  κ : ∀ i B, g.κ i = some B → g'.κ i = some B
  θ : ∀ i x, g.θ i = some x → g'.θ i = some x
  st : ∀ B o v, g.st B o = some v → g'.st B o = some v

theorem Ghost.le.refl (g : Ghost) : g.le g := ⟨fun _ _ h => h, fun _ _ h => h, fun _ _ _ h => h⟩
theorem Ghost.le.trans {a b c : Ghost} (h : a.le b) (k : b.le c) : a.le c :=
  ⟨fun i B x => k.κ i B (h.κ i B x), fun i B x => k.θ i B (h.θ i B x), fun B o v x => k.st B o v (h.st B o v x)⟩

/-- Cells that never change: from a place on these values. -/
def Ghost.row (g : Ghost) (B o : Nat) (vs : List Value) : Prop := ∀ i v, vs[i]? = some v → g.st B (o + i) = some v

theorem Ghost.row.mono {g g' : Ghost} (h : g.le g') {B o : Nat} {vs : List Value} (r : g.row B o vs) : g'.row B o vs :=
  fun i v hv => h.st _ _ _ (r i v hv)

/-- What a slice's tip says. -/
def TipR (g : Ghost) (tip : Tip) (a : Option Addr) (len cap S : Nat) : Prop :=
  match tip with
  | .none => True
  | .full => cap = len
  | .own t => ∃ B o, a = some ⟨B, o, none⟩ ∧ g.κ t = some B ∧ g.θ t = some (o + len * S, o + cap * S, S)

theorem TipR.mono {g g' : Ghost} (h : g.le g') {tip : Tip} {a : Option Addr} {len cap S : Nat} (r : TipR g tip a len cap S) : TipR g' tip a len cap S := by
  cases tip with
  | none => trivial
  | full => exact r
  | own t => obtain ⟨B, o, h1, h2, h3⟩ := r; exact ⟨B, o, h1, h.κ _ _ h2, h.θ _ _ h3⟩

/-- What is known of the room of a slice that may be written. -/
def CapR (g : Ghost) (b off cap cap' : Nat) : Prop := (cap = cap' ∧ cap < unk) ∨ cap = unk ∨ ∃ S, cap = ownC S ∧ ∃ e, g.θ b = some (e, off + cap' * S, S)
theorem CapR.mono {g g' : Ghost} (h : g.le g') {b off cap cap' : Nat} (r : CapR g b off cap cap') : CapR g' b off cap cap' := by
  rcases r with r | r | ⟨S, r, e, h1⟩
  · exact .inl r
  · exact .inr (.inl r)
  · exact .inr (.inr ⟨S, r, e, h.θ _ _ h1⟩)

mutual
/-- A value of the evaluator stands for a value of the model. -/
def VR (g : Ghost) : V → Value → Prop
  | .any, _ => True
  | .bool b, v => v = .bool b
  | .int k n, v => v = .int k n
  | .str s, v => v = .string ⟨s.toArray⟩
  | .ptr b off, v => ∃ B, g.κ b = some B ∧ v = .pointer (some ⟨B, off, none⟩)
  | .cptr cs, v => ∃ B o vs, v = .pointer (some ⟨B, o, none⟩) ∧ g.row B o vs ∧ VRs g cs vs
  | .nilptr, v => v = .pointer none
  | .sl tip xs, v => ∃ a cap vs S, v = .slice a xs.length cap ∧ VRe g S xs vs ∧ TipR g tip a xs.length cap S ∧ xs.length ≤ cap ∧ (xs ≠ [] → ∃ B o, a = some ⟨B, o, none⟩ ∧ g.row B o vs)
  | .msl b off len cap, v => ∃ B, g.κ b = some B ∧ ∃ cap', v = .slice (some ⟨B, off, none⟩) len cap' ∧ len ≤ cap' ∧ CapR g b off cap cap'
  | .map b, v => ∃ B, g.κ b = some B ∧ v = .map (some B)
  | .nilmap, v => v = .map none
  | .func fn fi ca, v => ∃ fi' ca', v = .func fn fi' ca' ∧ VRl g fi fi'.toList ∧ VRl g ca ca'.toList
  | .nilfunc, v => v = .nilFunc
  | .yield i, v => ∃ B, g.κ i = some B ∧ v = .func (.yield B) #[] #[]
  | .iface t x, v => ∃ x', v = .iface t x' ∧ VR g x x'
  | .niliface, v => v = .nilIface
  | .agg cs, v => ∃ vs, v = .agg vs ∧ VRs g cs vs.toList
  | .tup xs, v => ∃ vs, v = .tuple vs ∧ VRl g xs vs.toList
/-- Cells: none of them is a struct's or a tuple's value. -/
def VRs (g : Ghost) : List V → List Value → Prop
  | [], vs => vs = []
  | c :: cs, vs => ∃ v vs', vs = v :: vs' ∧ v.oneCell' = true ∧ VR g c v ∧ VRs g cs vs'
/-- Values. -/
def VRl (g : Ghost) : List V → List Value → Prop
  | [], vs => vs = []
  | c :: cs, vs => ∃ v vs', vs = v :: vs' ∧ VR g c v ∧ VRl g cs vs'
/-- Elements, of S cells each. -/
def VRe (g : Ghost) (S : Nat) : List V → List Value → Prop
  | [], vs => vs = []
  | x :: xs, vs => ∃ ch vs', vs = ch ++ vs' ∧ ch.length = S ∧ ncells x = S ∧
      (match x with
       | .agg cs => VRs g cs ch
       | y => ∃ v, ch = [v] ∧ v.oneCell' = true ∧ VR g y v) ∧ VRe g S xs vs'
end

/-- The cells of one value. -/
def VC (g : Ghost) (x : V) (ch : List Value) : Prop :=
  match x with
  | .agg cs => VRs g cs ch
  | y => ∃ v, ch = [v] ∧ v.oneCell' = true ∧ VR g y v

theorem VRe_cons {g : Ghost} {S : Nat} {x : V} {xs : List V} {vs : List Value} :
    VRe g S (x :: xs) vs ↔ ∃ ch vs', vs = ch ++ vs' ∧ ch.length = S ∧ ncells x = S ∧ VC g x ch ∧ VRe g S xs vs' := by
  cases x <;> exact Iff.rfl

/-! ### More known, less asked -/
mutual
theorem VR.mono {g g' : Ghost} (h : g.le g') : ∀ (v : V) (x : Value), VR g v x → VR g' v x
  | .any, _, _ => trivial
  | .bool _, _, r => r
  | .int _ _, _, r => r
  | .str _, _, r => r
  | .ptr _ _, _, ⟨B, h1, h2⟩ => ⟨B, h.κ _ _ h1, h2⟩
  | .cptr cs, _, ⟨B, o, vs, h1, h2, h3⟩ => ⟨B, o, vs, h1, h2.mono h, VRs.mono h cs vs h3⟩
  | .nilptr, _, r => r
  | .sl _ xs, _, ⟨a, cap, vs, S, h1, h2, h3, h4, h5⟩ => ⟨a, cap, vs, S, h1, VRe.mono h S xs vs h2, h3.mono h, h4, fun hx => let ⟨B, o, h6, h7⟩ := h5 hx; ⟨B, o, h6, h7.mono h⟩⟩
  | .msl _ _ _ _, _, ⟨B, h1, cap', h2, h3, h4⟩ => ⟨B, h.κ _ _ h1, cap', h2, h3, h4.mono h⟩
  | .map _, _, ⟨B, h1, h2⟩ => ⟨B, h.κ _ _ h1, h2⟩
  | .nilmap, _, r => r
  | .func _ fi ca, _, ⟨fi', ca', h1, h2, h3⟩ => ⟨fi', ca', h1, VRl.mono h fi fi'.toList h2, VRl.mono h ca ca'.toList h3⟩
  | .nilfunc, _, r => r
  | .yield _, _, ⟨B, h1, h2⟩ => ⟨B, h.κ _ _ h1, h2⟩
  | .iface _ x, _, ⟨x', h1, h2⟩ => ⟨x', h1, VR.mono h x x' h2⟩
  | .niliface, _, r => r
  | .agg cs, _, ⟨vs, h1, h2⟩ => ⟨vs, h1, VRs.mono h cs vs.toList h2⟩
  | .tup xs, _, ⟨vs, h1, h2⟩ => ⟨vs, h1, VRl.mono h xs vs.toList h2⟩
theorem VRs.mono {g g' : Ghost} (h : g.le g') : ∀ (cs : List V) (vs : List Value), VRs g cs vs → VRs g' cs vs
  | [], _, r => r
  | c :: cs, _, ⟨v, vs', h1, h2, h3, h4⟩ => ⟨v, vs', h1, h2, VR.mono h c v h3, VRs.mono h cs vs' h4⟩
theorem VRl.mono {g g' : Ghost} (h : g.le g') : ∀ (cs : List V) (vs : List Value), VRl g cs vs → VRl g' cs vs
  | [], _, r => r
  | c :: cs, _, ⟨v, vs', h1, h3, h4⟩ => ⟨v, vs', h1, VR.mono h c v h3, VRl.mono h cs vs' h4⟩
theorem VRe.mono {g g' : Ghost} (h : g.le g') (S : Nat) : ∀ (xs : List V) (vs : List Value), VRe g S xs vs → VRe g' S xs vs
  | [], _, r => r
  | x :: xs, vs, r => by
    obtain ⟨ch, vs', h1, h2, h3, h4, h5⟩ := VRe_cons.1 r
    refine VRe_cons.2 ⟨ch, vs', h1, h2, h3, ?_, VRe.mono h S xs vs' h5⟩
    match x, h4 with
    | .agg cs, h4 => exact VRs.mono h cs ch h4
    | .any, ⟨v, a, b, _⟩ => exact ⟨v, a, b, trivial⟩
    | .bool _, ⟨v, a, b, c⟩ => exact ⟨v, a, b, c⟩
    | .int _ _, ⟨v, a, b, c⟩ => exact ⟨v, a, b, c⟩
    | .str _, ⟨v, a, b, c⟩ => exact ⟨v, a, b, c⟩
    | .ptr _ _, ⟨v, a, b, ⟨B, c, d⟩⟩ => exact ⟨v, a, b, ⟨B, h.κ _ _ c, d⟩⟩
    | .cptr cs, ⟨v, a, b, ⟨B, o, ws, c, d, e⟩⟩ => exact ⟨v, a, b, ⟨B, o, ws, c, d.mono h, VRs.mono h cs ws e⟩⟩
    | .nilptr, ⟨v, a, b, c⟩ => exact ⟨v, a, b, c⟩
    | .sl _ ys, ⟨v, a, b, ⟨ad, cap, ws, T, k1, k2, k3, k4, k5⟩⟩ => exact ⟨v, a, b, ⟨ad, cap, ws, T, k1, VRe.mono h T ys ws k2, k3.mono h, k4, fun hx => let ⟨B, o, h6, h7⟩ := k5 hx; ⟨B, o, h6, h7.mono h⟩⟩⟩
    | .msl _ _ _ _, ⟨v, a, b, ⟨B, c, cap', d, e, f⟩⟩ => exact ⟨v, a, b, ⟨B, h.κ _ _ c, cap', d, e, f.mono h⟩⟩
    | .map _, ⟨v, a, b, ⟨B, c, d⟩⟩ => exact ⟨v, a, b, ⟨B, h.κ _ _ c, d⟩⟩
    | .nilmap, ⟨v, a, b, c⟩ => exact ⟨v, a, b, c⟩
    | .func _ fi ca, ⟨v, a, b, ⟨fi', ca', c, d, e⟩⟩ => exact ⟨v, a, b, ⟨fi', ca', c, VRl.mono h fi fi'.toList d, VRl.mono h ca ca'.toList e⟩⟩
    | .nilfunc, ⟨v, a, b, c⟩ => exact ⟨v, a, b, c⟩
    | .yield _, ⟨v, a, b, ⟨B, c, d⟩⟩ => exact ⟨v, a, b, ⟨B, h.κ _ _ c, d⟩⟩
    | .iface _ y, ⟨v, a, b, ⟨x', c, d⟩⟩ => exact ⟨v, a, b, ⟨x', c, VR.mono h y x' d⟩⟩
    | .niliface, ⟨v, a, b, c⟩ => exact ⟨v, a, b, c⟩
    | .tup ys, ⟨v, a, b, ⟨ws, c, d⟩⟩ => exact ⟨v, a, b, ⟨ws, c, VRl.mono h ys ws.toList d⟩⟩
end

theorem VC.mono {g g' : Ghost} (h : g.le g') {x : V} {ch : List Value} (r : VC g x ch) : VC g' x ch := by
  cases x <;> simp only [VC] at r ⊢ <;> first
    | exact VRs.mono h _ _ r
    | (obtain ⟨v, a, b, c⟩ := r; exact ⟨v, a, b, VR.mono h _ _ c⟩)

/-! ### Lists of cells -/
theorem VRs.length {g : Ghost} : ∀ {cs : List V} {vs : List Value}, VRs g cs vs → cs.length = vs.length
  | [], vs, h => by simp only [VRs] at h; subst h; rfl
  | c :: cs, vs, h => by simp only [VRs] at h; obtain ⟨v, vs', rfl, _, _, h⟩ := h; simp [VRs.length h]

theorem VRl.length {g : Ghost} : ∀ {cs : List V} {vs : List Value}, VRl g cs vs → cs.length = vs.length
  | [], vs, h => by simp only [VRl] at h; subst h; rfl
  | c :: cs, vs, h => by simp only [VRl] at h; obtain ⟨v, vs', rfl, _, h⟩ := h; simp [VRl.length h]

theorem VRs.one {g : Ghost} : ∀ {cs : List V} {vs : List Value}, VRs g cs vs → ∀ v ∈ vs, v.oneCell' = true
  | [], vs, h, v, hv => by simp only [VRs] at h; subst h; cases hv
  | c :: cs, vs, h, v, hv => by
    simp only [VRs] at h; obtain ⟨u, vs', rfl, h1, _, h⟩ := h
    cases hv with
    | head => exact h1
    | tail _ hv => exact VRs.one h v hv

theorem VRs.get {g : Ghost} : ∀ {cs : List V} {vs : List Value}, VRs g cs vs → ∀ {i : Nat} {c : V}, cs[i]? = some c → ∃ v, vs[i]? = some v ∧ v.oneCell' = true ∧ VR g c v
  | [], _, _, i, c, hc => by simp at hc
  | x :: cs, vs, h, i, c, hc => by
    simp only [VRs] at h; obtain ⟨u, vs', rfl, h1, h2, h⟩ := h
    cases i with
    | zero => simp at hc; subst hc; exact ⟨u, rfl, h1, h2⟩
    | succ i => simp at hc ⊢; exact VRs.get h hc

theorem VRl.get {g : Ghost} : ∀ {cs : List V} {vs : List Value}, VRl g cs vs → ∀ {i : Nat} {c : V}, cs[i]? = some c → ∃ v, vs[i]? = some v ∧ VR g c v
  | [], _, _, i, c, hc => by simp at hc
  | x :: cs, vs, h, i, c, hc => by
    simp only [VRl] at h; obtain ⟨u, vs', rfl, h2, h⟩ := h
    cases i with
    | zero => simp at hc; subst hc; exact ⟨u, rfl, h2⟩
    | succ i => simp at hc ⊢; exact VRl.get h hc

theorem VRs.append {g : Ghost} : ∀ {as : List V} {us : List Value} {bs : List V} {vs : List Value}, VRs g as us → VRs g bs vs → VRs g (as ++ bs) (us ++ vs)
  | [], us, _, _, h, k => by simp only [VRs] at h; subst h; exact k
  | a :: as, us, _, _, h, k => by
    simp only [VRs] at h; obtain ⟨u, us', rfl, h1, h2, h⟩ := h
    simp only [List.cons_append, VRs]; exact ⟨u, _, rfl, h1, h2, VRs.append h k⟩

theorem VRs.take {g : Ghost} : ∀ {as : List V} {us : List Value} (n : Nat), VRs g as us → VRs g (as.take n) (us.take n)
  | [], us, n, h => by simp only [VRs] at h; subst h; simp [VRs]
  | a :: as, us, n, h => by
    simp only [VRs] at h; obtain ⟨u, us', rfl, h1, h2, h⟩ := h
    cases n with
    | zero => simp [VRs]
    | succ n => simp only [List.take_succ_cons, VRs]; exact ⟨u, _, rfl, h1, h2, VRs.take n h⟩

theorem VRs.drop {g : Ghost} : ∀ {as : List V} {us : List Value} (n : Nat), VRs g as us → VRs g (as.drop n) (us.drop n)
  | [], us, n, h => by simp only [VRs] at h; subst h; simp [VRs]
  | a :: as, us, n, h => by
    simp only [VRs] at h; obtain ⟨u, us', rfl, h1, h2, h⟩ := h
    cases n with
    | zero => simp only [List.drop_zero, VRs]; exact ⟨u, _, rfl, h1, h2, h⟩
    | succ n => simp only [List.drop_succ_cons]; exact VRs.drop n h

theorem VRs.putAt {g : Ghost} {as : List V} {us : List Value} {bs : List V} {vs : List Value} (n : Nat) (h : VRs g as us) (k : VRs g bs vs) :
    VRs g (Vm.putAt as n bs) (us.take n ++ vs ++ us.drop (n + vs.length)) := by
  unfold Vm.putAt
  rw [k.length]
  exact ((h.take n).append k).append (h.drop _)

theorem VRe.append {g : Ghost} {S : Nat} : ∀ {as : List V} {us : List Value} {bs : List V} {vs : List Value}, VRe g S as us → VRe g S bs vs → VRe g S (as ++ bs) (us ++ vs)
  | [], us, _, _, h, k => by simp only [VRe] at h; subst h; exact k
  | a :: as, us, bs, vs, h, k => by
    obtain ⟨ch, us', rfl, h1, h2, h3, h4⟩ := VRe_cons.1 h
    exact VRe_cons.2 ⟨ch, us' ++ vs, by simp, h1, h2, h3, VRe.append h4 k⟩

theorem VRe.length {g : Ghost} {S : Nat} : ∀ {xs : List V} {vs : List Value}, VRe g S xs vs → vs.length = xs.length * S
  | [], vs, h => by simp only [VRe] at h; subst h; simp
  | x :: xs, vs, h => by
    obtain ⟨ch, vs', rfl, h1, _, _, h⟩ := VRe_cons.1 h
    rw [List.length_append, h1, VRe.length h, List.length_cons, Nat.add_mul, Nat.one_mul, Nat.add_comm]

theorem VC.one {g : Ghost} {x : V} {ch : List Value} (h : VC g x ch) : ∀ v ∈ ch, v.oneCell' = true := by
  cases x <;> simp only [VC] at h <;> first
    | exact VRs.one h
    | (obtain ⟨v, rfl, h1, _⟩ := h; intro u hu; simp at hu; subst hu; exact h1)

theorem VC.ncells {g : Ghost} {x : V} {ch : List Value} (h : VC g x ch) : ncells x = ch.length := by
  cases x <;> simp only [VC] at h <;> first
    | exact h.length
    | (obtain ⟨v, rfl, _⟩ := h; rfl)

theorem VRe.one {g : Ghost} {S : Nat} : ∀ {xs : List V} {vs : List Value}, VRe g S xs vs → ∀ v ∈ vs, v.oneCell' = true
  | [], vs, h, v, hv => by simp only [VRe] at h; subst h; cases hv
  | x :: xs, vs, h, v, hv => by
    obtain ⟨ch, vs', rfl, _, _, h3, h⟩ := VRe_cons.1 h
    rcases List.mem_append.1 hv with hv | hv
    · exact h3.one v hv
    · exact VRe.one h v hv

/-- Element number i: its cells. -/
theorem VRe.get {g : Ghost} {S : Nat} : ∀ {xs : List V} {vs : List Value}, VRe g S xs vs → ∀ {i : Nat} {x : V}, xs[i]? = some x →
    ncells x = S ∧ VC g x ((vs.drop (i * S)).take S)
  | [], _, _, i, x, hx => by simp at hx
  | y :: xs, vs, h, i, x, hx => by
    obtain ⟨ch, vs', rfl, h1, h2, h3, h⟩ := VRe_cons.1 h
    cases i with
    | zero => simp at hx; subst hx; refine ⟨h2, ?_⟩; rw [Nat.zero_mul, List.drop_zero, List.take_append_of_le_length (by omega), List.take_of_length_le (by omega)]; exact h3
    | succ i =>
      simp at hx
      have := VRe.get h hx
      rw [show (i + 1) * S = ch.length + i * S by rw [h1, Nat.add_mul, Nat.one_mul, Nat.add_comm], List.drop_length_add_append]
      exact this

theorem VRe.drop {g : Ghost} {S : Nat} : ∀ {xs : List V} {vs : List Value} (n : Nat), VRe g S xs vs → VRe g S (xs.drop n) (vs.drop (n * S))
  | [], vs, n, h => by simp only [VRe] at h; subst h; simp [VRe]
  | y :: xs, vs, n, h => by
    cases n with
    | zero => simpa using h
    | succ n =>
      obtain ⟨ch, vs', rfl, h1, h2, h3, h⟩ := VRe_cons.1 h
      rw [show (n + 1) * S = ch.length + n * S by rw [h1, Nat.add_mul, Nat.one_mul, Nat.add_comm], List.drop_length_add_append, List.drop_succ_cons]
      exact VRe.drop n h

theorem VRe.take {g : Ghost} {S : Nat} : ∀ {xs : List V} {vs : List Value} (n : Nat), VRe g S xs vs → VRe g S (xs.take n) (vs.take (n * S))
  | [], vs, n, h => by simp only [VRe] at h; subst h; simp [VRe]
  | y :: xs, vs, n, h => by
    cases n with
    | zero => simp [VRe]
    | succ n =>
      obtain ⟨ch, vs', rfl, h1, h2, h3, h⟩ := VRe_cons.1 h
      rw [show (n + 1) * S = ch.length + n * S by rw [h1, Nat.add_mul, Nat.one_mul, Nat.add_comm], List.take_length_add_append, List.take_succ_cons]
      exact VRe_cons.2 ⟨ch, _, rfl, h1, h2, h3, VRe.take n h⟩

/-- An element's size: as the first one's cells tell it. -/
theorem VRe.size {g : Ghost} {S s : Nat} {xs : List V} {vs : List Value} (h : VRe g S xs vs) (hs : szOk s xs = true) (hne : xs ≠ []) : S = s := by
  cases xs with
  | nil => exact absurd rfl hne
  | cons x xs =>
    obtain ⟨ch, vs', _, _, h2, _, _⟩ := VRe_cons.1 h
    simp only [szOk, beq_iff_eq] at hs
    omega

/-! ### Tips that are forgotten -/
theorem VR.stripCell {g : Ghost} {v : V} {x : Value} (h : VR g v x) : VR g (Vm.stripCell v) x := by
  cases v <;> simp only [Vm.stripCell] <;> first
    | exact h
    | (obtain ⟨a, cap, vs, S, h1, h2, h3, h4, h5⟩ := h; exact ⟨a, cap, vs, S, h1, h2, trivial, h4, h5⟩)

theorem VRs.strip {g : Ghost} : ∀ {cs : List V} {vs : List Value}, VRs g cs vs → VRs g (cs.map Vm.stripCell) vs
  | [], _, h => h
  | c :: cs, vs, h => by
    simp only [VRs] at h; obtain ⟨u, vs', rfl, h1, h2, h⟩ := h
    simp only [List.map_cons, VRs]; exact ⟨u, _, rfl, h1, h2.stripCell, VRs.strip h⟩

theorem VR.stripAgg {g : Ghost} {v : V} {x : Value} (h : VR g v x) : VR g (Vm.stripAgg v) x := by
  cases v <;> first
    | exact h.stripCell
    | (obtain ⟨vs, h1, h2⟩ := h; exact ⟨vs, h1, h2.strip⟩)

theorem VC.stripAgg {g : Ghost} {x : V} {ch : List Value} (h : VC g x ch) : VC g (Vm.stripAgg x) ch := by
  cases x <;> simp only [VC, Vm.stripAgg, Vm.stripCell] at h ⊢ <;> first
    | exact h.strip
    | exact h
    | (obtain ⟨v, h1, h2, h3⟩ := h; exact ⟨v, h1, h2, h3.stripCell⟩)

theorem ncells_stripAgg (x : V) : ncells (Vm.stripAgg x) = ncells x := by
  cases x <;> simp [Vm.stripAgg, Vm.stripCell, Vm.ncells]

theorem VRe.strip {g : Ghost} {S : Nat} : ∀ {xs : List V} {vs : List Value}, VRe g S xs vs → VRe g S (xs.map Vm.stripAgg) vs
  | [], _, h => h
  | x :: xs, vs, h => by
    obtain ⟨ch, vs', h0, h1, h2, h3, h4⟩ := VRe_cons.1 h
    exact VRe_cons.2 ⟨ch, vs', h0, h1, by rw [ncells_stripAgg]; exact h2, h3.stripAgg, VRe.strip h4⟩

theorem VRl.stripAgg {g : Ghost} : ∀ {cs : List V} {vs : List Value}, VRl g cs vs → VRl g (cs.map Vm.stripAgg) vs
  | [], _, h => h
  | c :: cs, vs, h => by
    simp only [VRl] at h; obtain ⟨u, vs', rfl, h2, h⟩ := h
    simp only [List.map_cons, VRl]; exact ⟨u, _, rfl, h2.stripAgg, VRl.stripAgg h⟩

theorem VR.strip {g : Ghost} {v : V} {x : Value} (h : VR g v x) : VR g (Vm.strip v) x := by
  cases v <;> first
    | exact h.stripAgg
    | (obtain ⟨vs, h1, h2⟩ := h; exact ⟨vs, h1, h2.stripAgg⟩)

/-! ### A value and its cells -/
theorem cellsOf_VR {g : Ghost} {v : V} {x : Value} {cs : List V} (h : VR g v x) (hc : cellsOf v = some cs) : VRs g cs x.cells.toList := by
  cases v <;> simp only [Vm.cellsOf, Option.some.injEq, reduceCtorEq] at hc <;> subst hc
  case agg cs => obtain ⟨vs, rfl, h2⟩ := h; exact h2
  case bool b => simp only [VR] at h; subst h; exact ⟨_, [], rfl, rfl, rfl, rfl⟩
  case int k n => simp only [VR] at h; subst h; exact ⟨_, [], rfl, rfl, rfl, rfl⟩
  case str s => simp only [VR] at h; subst h; exact ⟨_, [], rfl, rfl, rfl, rfl⟩
  case ptr b off => obtain ⟨B, h1, rfl⟩ := h; exact ⟨_, [], rfl, rfl, ⟨B, h1, rfl⟩, rfl⟩
  case cptr cs => obtain ⟨B, o, vs, rfl, h1, h2⟩ := h; exact ⟨_, [], rfl, rfl, ⟨B, o, vs, rfl, h1, h2⟩, rfl⟩
  case nilptr => simp only [VR] at h; subst h; exact ⟨_, [], rfl, rfl, rfl, rfl⟩
  case sl tip xs => obtain ⟨a, cap, vs, S, rfl, r⟩ := h; exact ⟨_, [], rfl, rfl, ⟨a, cap, vs, S, rfl, r⟩, rfl⟩
  case msl b off len cap => obtain ⟨B, h1, cap', rfl, h2⟩ := h; exact ⟨_, [], rfl, rfl, ⟨B, h1, cap', rfl, h2⟩, rfl⟩
  case map b => obtain ⟨B, h1, rfl⟩ := h; exact ⟨_, [], rfl, rfl, ⟨B, h1, rfl⟩, rfl⟩
  case nilmap => simp only [VR] at h; subst h; exact ⟨_, [], rfl, rfl, rfl, rfl⟩
  case func fn fi ca => obtain ⟨fi', ca', rfl, r⟩ := h; exact ⟨_, [], rfl, rfl, ⟨fi', ca', rfl, r⟩, rfl⟩
  case nilfunc => simp only [VR] at h; subst h; exact ⟨_, [], rfl, rfl, rfl, rfl⟩
  case yield b => obtain ⟨B, h1, rfl⟩ := h; exact ⟨_, [], rfl, rfl, ⟨B, h1, rfl⟩, rfl⟩
  case iface t y => obtain ⟨x', rfl, r⟩ := h; exact ⟨_, [], rfl, rfl, ⟨x', rfl, r⟩, rfl⟩
  case niliface => simp only [VR] at h; subst h; exact ⟨_, [], rfl, rfl, rfl, rfl⟩

end Go.Vm
/- The evaluator's heap against the model's memory: what may happen to both. -/
namespace Go.Vm
open Go Go.RowKit

/-! ### Lists of names -/
theorem hget_mem : ∀ {H : List (Nat × Ob)} {i : Nat} {o : Ob}, hget H i = some o → (i, o) ∈ H
  | [], _, _, h => by simp [hget] at h
  | (j, p) :: r, i, o, h => by
    simp only [hget] at h
    split at h
    · rename_i e; simp at e; cases h; subst e; exact List.mem_cons_self
    · exact List.mem_cons_of_mem _ (hget_mem h)

theorem hget_hset : ∀ (H : List (Nat × Ob)) (b i : Nat) (x : Ob), hget (hset H b x) i = if i = b then (hget H b).map (fun _ => x) else hget H i
  | [], b, i, x => by simp [hset, hget]
  | (j, p) :: r, b, i, x => by
    simp only [hset]
    by_cases hj : j = b
    · subst hj
      by_cases hi : i = j
      · subst hi; simp [hget]
      · simp [hget, hi, Ne.symm hi]
    · have hj' : (j == b) = false := by simp [hj]
      simp only [hj', Bool.false_eq_true, if_false, hget]
      by_cases hi : i = b
      · subst hi; simp [hj, hget_hset r i i x]
      · by_cases hji : j = i
        · subst hji; simp [hi]
        · simp [hji, hi, hget_hset r b i x]

def Sorted (H : List (Nat × Ob)) : Prop := H.Pairwise fun a b => b.1 < a.1

theorem hset_keys : ∀ (H : List (Nat × Ob)) (b : Nat) (x : Ob), (hset H b x).map (·.1) = H.map (·.1)
  | [], _, _ => rfl
  | (j, p) :: r, b, x => by
    simp only [hset]; split
    · simp_all
    · simp [hset_keys r b x]

theorem Sorted.hset {H : List (Nat × Ob)} (h : Sorted H) (b : Nat) (x : Ob) : Sorted (Vm.hset H b x) := by
  unfold Sorted at *
  have h1 : (H.map (·.1)).Pairwise fun a b => b < a := List.pairwise_map.2 h
  rw [← hset_keys H b x] at h1
  exact List.pairwise_map.1 h1

theorem hdel_sub : ∀ (H : List (Nat × Ob)) (b : Nat), (hdel H b).Sublist H
  | [], _ => List.Sublist.refl _
  | (j, p) :: r, b => by
    simp only [hdel]; split
    · exact List.sublist_cons_self _ _
    · exact (hdel_sub r b).cons_cons _

theorem hdrop_sub : ∀ (n : Nat) (H : List (Nat × Ob)), (hdrop n H).Sublist H
  | _, [] => List.Sublist.refl _
  | n, (j, p) :: r => by
    simp only [hdrop]; split
    · exact (hdrop_sub n r).trans (List.sublist_cons_self _ _)
    · exact List.Sublist.refl _

theorem Sorted.get {H : List (Nat × Ob)} (h : Sorted H) {i : Nat} {o : Ob} (hm : (i, o) ∈ H) : hget H i = some o := by
  induction H with
  | nil => cases hm
  | cons p r ih =>
    obtain ⟨j, q⟩ := p
    have h' := List.pairwise_cons.1 h
    cases hm with
    | head => simp [hget]
    | tail _ hm =>
      have := h'.1 _ hm
      have hne : (j == i) = false := by simp; simp at this; omega
      simp only [hget, hne, Bool.false_eq_true, if_false]
      exact ih h'.2 hm

theorem Sorted.sub {H H' : List (Nat × Ob)} (h : Sorted H) (hs : H'.Sublist H) : Sorted H' := List.Pairwise.sublist hs h

theorem Sorted.sub_get {H H' : List (Nat × Ob)} (h : Sorted H) (hs : H'.Sublist H) {i : Nat} {o : Ob} (hg : hget H' i = some o) : hget H i = some o :=
  h.get (hs.subset (hget_mem hg))

/-! ### What an object is in memory -/
inductive EsR (g : Ghost) : List (V × V) → List MapEntry → Prop
  | nil : EsR g [] []
  | cons {k v : V} {e : MapEntry} {r : List (V × V)} {es : List MapEntry} : VR g k e.key → VR g v e.val → EsR g r es → EsR g ((k, v) :: r) (e :: es)

theorem EsR.mono {g g' : Ghost} (h : g.le g') {r : List (V × V)} {es : List MapEntry} (k : EsR g r es) : EsR g' r es := by
  induction k with
  | nil => exact .nil
  | cons a b _ ih => exact .cons (a.mono h) (b.mono h) ih

theorem EsR.length {g : Ghost} {r : List (V × V)} {es : List MapEntry} (k : EsR g r es) : r.length = es.length := by
  induction k with
  | nil => rfl
  | cons _ _ _ ih => simp [ih]

/-- No cell of a row of so many is frozen. -/
def Free (fz : Nat × Nat) (n : Nat) : Prop := ∀ x, x < n → ¬(fz.1 ≤ x ∧ x < fz.2)

/-- The stamps of a map's entries: they grow, and lie below its clock. -/
def Stamped (es : List MapEntry) (ck : Nat) : Prop := es.Pairwise (fun a b => a.born < b.born) ∧ ∀ e ∈ es, e.born < ck

theorem Stamped.iff {es : List MapEntry} {ck : Nat} : Stamped es ck ↔ (es.map (·.born)).Pairwise (· < ·) ∧ ∀ b ∈ es.map (·.born), b < ck := by
  unfold Stamped
  rw [List.pairwise_map]
  simp
theorem Stamped.congr {es es2 : List MapEntry} {ck : Nat} (h : Stamped es ck) (e : es2.map (·.born) = es.map (·.born)) : Stamped es2 ck := by
  rw [Stamped.iff] at h ⊢
  rw [e]; exact h

def ObR (g : Ghost) (w : World) (ob : Ob) (i B : Nat) : Prop :=
  match ob with
  | .cells cs => ∃ vs more elem fz, w.heap[B]? = some (.cells (vs ++ more) elem fz) ∧ VRs g cs vs.toList ∧ Free fz (vs ++ more).size ∧ (∀ o, g.st B o = none) ∧ ∀ e tot S, g.θ i = some (e, tot, S) → tot ≤ (vs ++ more).size
  | .map es => ∃ es' ck, w.heap[B]? = some (.map es' ck) ∧ EsR g es es'.toList ∧ Stamped es'.toList ck ∧ ∀ o, g.st B o = none
  | .pin es bs ck => ∃ es', w.heap[B]? = some (.map es' ck) ∧ EsR g es es'.toList ∧ es'.toList.map (·.born) = bs ∧ Stamped es'.toList ck ∧ ∀ o, g.st B o = none
  | .pin1 es ib => ∃ es' ck, w.heap[B]? = some (.map es' ck) ∧ EsR g es es'.toList ∧ Stamped es'.toList ck ∧ (∀ o, g.st B o = none) ∧ es.length ≤ 1 ∧ ∃ b, g.θ ib = some (b, ck, 0) ∧ ∀ e ∈ es'.toList, e.born = b
  | .iter1 mb done => ∃ Bm b ck, g.κ mb = some Bm ∧ g.θ i = some (b, ck, 0) ∧ w.heap[B]? = some (.mapIter (some Bm) ck (if done then #[b] else #[]) ck) ∧ ∀ o, g.st B o = none
  | .iter0 => w.heap[B]? = some (.mapIter none 0 #[] 0) ∧ ∀ o, g.st B o = none
  | .mark => w.heap[B]? = some (.deferred (some [])) ∧ ∀ o, g.st B o = none
  | .loop t N ps assign body s => ∃ r : Loop, w.heap[B]? = some (.loop r) ∧ (∀ o, g.st B o = none) ∧ r.state = s ∧ r.pending = none ∧ r.params = ps ∧ r.assign = assign ∧ r.body = body ∧ r.tmps.size = N ∧ ∀ i, VR g (tget t i) (r.tmps.getD i undef)
  | .iter mb since seen => ∃ Bm, g.κ mb = some Bm ∧ w.heap[B]? = some (.mapIter (some Bm) since seen.toArray since) ∧ ∀ o, g.st B o = none
  | .tip sz => ∃ e tot vs elem fz, g.θ i = some (e, tot, sz) ∧ w.heap[B]? = some (.cells vs elem fz) ∧ tot ≤ vs.size ∧ Free fz vs.size ∧ ∀ o, e ≤ o → g.st B o = none

/-- A world at the start, and the cells that never change there. -/
structure W0 where
  w : World
  s0 : Nat → Nat → Option Value

structure GR (g : Ghost) (st : St) (w0 : W0) (base : Nat) (w : World) : Prop where
  below : Below base w0.w w
  lim0 : base ≤ w.heap.size
  stab : ∀ B o v, g.st B o = some v → w.cell? ⟨B, o, none⟩ = some v
  obj : ∀ i ob B, hget st.H i = some ob → g.κ i = some B → ObR g w ob i B
  excl : ∀ i j oi oj B, hget st.H i = some oi → hget st.H j = some oj → g.κ i = some B → g.κ j = some B → i = j
  old : ∀ i ob B, hget st.H i = some ob → g.κ i = some B → base ≤ B
  lim : ∀ i, st.n ≤ i → g.κ i = none ∧ g.θ i = none
  sorted : Sorted st.H
  top : ∀ p ∈ st.H, p.1 < st.n
  lo : ∀ B o, B < base → g.st B o = w0.s0 B o

theorem GR.fresh {g : Ghost} {st : St} {w0 : W0} {base : Nat} {w : World} (h : GR g st w0 base w) {i : Nat} (hi : st.n ≤ i) : hget st.H i = none := by
  cases hg : hget st.H i with
  | none => rfl
  | some o => have := h.top _ (hget_mem hg); simp at this; omega

theorem lt_of_cell {w : World} {B o : Nat} {v : Value} (h : w.cell? ⟨B, o, none⟩ = some v) : B < w.heap.size := World.block_lt_of_cell? w ⟨B, o, none⟩ h

theorem GR.st_lt {g : Ghost} {st : St} {w0 : W0} {base : Nat} {w : World} (h : GR g st w0 base w) {B o : Nat} {v : Value} (hs : g.st B o = some v) : B < w.heap.size := lt_of_cell (h.stab _ _ _ hs)

theorem ObR.lt {g : Ghost} {w : World} {ob : Ob} {i B : Nat} (h : ObR g w ob i B) : B < w.heap.size := by
  cases ob with
  | cells cs => obtain ⟨vs, m, e, fz, h, _⟩ := h; exact (Array.getElem?_eq_some_iff.1 h).1
  | map es => obtain ⟨vs, e, h, _⟩ := h; exact (Array.getElem?_eq_some_iff.1 h).1
  | pin es bs ck => obtain ⟨vs, h, _⟩ := h; exact (Array.getElem?_eq_some_iff.1 h).1
  | iter mb s se => obtain ⟨_, _, h, _⟩ := h; exact (Array.getElem?_eq_some_iff.1 h).1
  | pin1 es ib => obtain ⟨_, _, h, _⟩ := h; exact (Array.getElem?_eq_some_iff.1 h).1
  | iter1 mb d => obtain ⟨_, _, _, _, _, h, _⟩ := h; exact (Array.getElem?_eq_some_iff.1 h).1
  | iter0 => exact (Array.getElem?_eq_some_iff.1 h.1).1
  | mark => exact (Array.getElem?_eq_some_iff.1 h.1).1
  | loop t N ps a b s => obtain ⟨r, h, _⟩ := h; exact (Array.getElem?_eq_some_iff.1 h).1
  | tip sz => obtain ⟨_, _, vs, e, fz, _, h, _⟩ := h; exact (Array.getElem?_eq_some_iff.1 h).1

/-- Another world whose heap has the same block, a ghost that says as much of it. -/
theorem ObR.keep {g g' : Ghost} {w w' : World} {ob : Ob} {i B : Nat} (h : ObR g w ob i B) (hl : g.le g') (hb : w'.heap[B]? = w.heap[B]?)
    (hst : ∀ o, g.st B o = none → g'.st B o = none) (hθ : ∀ x, g'.θ i = some x → g.θ i = some x := by exact fun _ h => h) : ObR g' w' ob i B := by
  cases ob with
  | cells cs => obtain ⟨vs, m, e, fz, h1, h2, h3, h4, h5⟩ := h; exact ⟨vs, m, e, fz, hb.trans h1, h2.mono hl, h3, fun o => hst o (h4 o), fun e tot S he => h5 e tot S (hθ _ he)⟩
  | map es => obtain ⟨vs, ck, h1, h2, h3, h4⟩ := h; exact ⟨vs, ck, hb.trans h1, h2.mono hl, h3, fun o => hst o (h4 o)⟩
  | pin es bs ck => obtain ⟨vs, h1, h2, h3, h5, h4⟩ := h; exact ⟨vs, hb.trans h1, h2.mono hl, h3, h5, fun o => hst o (h4 o)⟩
  | iter mb s se => obtain ⟨Bm, h1, h2, h4⟩ := h; exact ⟨Bm, hl.κ _ _ h1, hb.trans h2, fun o => hst o (h4 o)⟩
  | pin1 es ib => obtain ⟨vs, ck, h1, h2, h3, h4, h5, b, h6, h7⟩ := h; exact ⟨vs, ck, hb.trans h1, h2.mono hl, h3, fun o => hst o (h4 o), h5, b, hl.θ _ _ h6, h7⟩
  | iter1 mb d => obtain ⟨Bm, b, ck, h1, h2, h3, h4⟩ := h; exact ⟨Bm, b, ck, hl.κ _ _ h1, hl.θ _ _ h2, hb.trans h3, fun o => hst o (h4 o)⟩
  | iter0 => exact ⟨hb.trans h.1, fun o => hst o (h.2 o)⟩
  | mark => exact ⟨hb.trans h.1, fun o => hst o (h.2 o)⟩
  | loop t N ps a b s => obtain ⟨r, h1, h2, h3, h4, h5, h6, h7, h8, h9⟩ := h; exact ⟨r, hb.trans h1, fun o => hst o (h2 o), h3, h4, h5, h6, h7, h8, fun i => (h9 i).mono hl⟩
  | tip sz => obtain ⟨e, tot, vs, el, fz, h0, h1, h2, h3, h4⟩ := h; exact ⟨e, tot, vs, el, fz, hl.θ _ _ h0, hb.trans h1, h2, h3, fun o ho => hst o (h4 o ho)⟩

section
variable {g : Ghost} {st : St} {w0 : W0} {base : Nat} {w : World}

/-- Names may be forgotten. -/
theorem GR.sub (h : GR g st w0 base w) {H' : List (Nat × Ob)} (hs : H'.Sublist st.H) {n' : Nat} (hn : st.n ≤ n') : GR g ⟨H', n'⟩ w0 base w :=
  ⟨h.below, h.lim0, h.stab, fun i ob B h1 h2 => h.obj i ob B (h.sorted.sub_get hs h1) h2, fun i j oi oj B h1 h2 => h.excl i j oi oj B (h.sorted.sub_get hs h1) (h.sorted.sub_get hs h2),
    fun i ob B h1 => h.old i ob B (h.sorted.sub_get hs h1), fun i hi => h.lim i (Nat.le_trans hn hi), h.sorted.sub hs, fun p hp => Nat.lt_of_lt_of_le (h.top p (hs.subset hp)) hn, h.lo⟩

/-- A name that stands for nothing yet. -/
theorem GR.add (h : GR g st w0 base w) (ob : Option Ob) : GR g (st.add ob) w0 base w := by
  cases ob with
  | none => exact h
  | some ob =>
    have hk := (h.lim st.n (Nat.le_refl _)).1
    have get : ∀ i o B, hget ((st.n, ob) :: st.H) i = some o → g.κ i = some B → hget st.H i = some o := fun i o B hi hκ => by
      simp only [hget] at hi
      split at hi
      · rename_i e; simp at e; subst e; rw [hk] at hκ; cases hκ
      · exact hi
    refine ⟨h.below, h.lim0, h.stab, fun i o B h1 h2 => h.obj i o B (get i o B h1 h2) h2, fun i j oi oj B h1 h2 h3 h4 => h.excl i j oi oj B (get i oi B h1 h3) (get j oj B h2 h4) h3 h4,
      fun i o B h1 h2 => h.old i o B (get i o B h1 h2) h2, fun i hi => h.lim i (by simp only [St.add] at hi; omega), ?_, ?_, h.lo⟩
    · exact List.pairwise_cons.2 ⟨fun p hp => h.top p hp, h.sorted⟩
    · intro p hp
      simp only [St.add] at hp ⊢
      cases hp with
      | head => simp
      | tail _ hp => have := h.top p hp; omega

/-- A world with the same memory. -/
theorem GR.same (h : GR g st w0 base w) {w' : World} (hh : w'.heap = w.heap) (ho : w'.os = w.os) (ht : w'.tape = w.tape) (hp : w'.output = w.output) : GR g st w0 base w' := by
  have hc : ∀ a, w'.cell? a = w.cell? a := fun a => by simp [World.cell?, hh]
  refine ⟨⟨ho.trans h.below.os, ht.trans h.below.tape, hp.trans h.below.output, by rw [hh]; exact h.below.size, fun k hk => by rw [hh]; exact h.below.block k hk⟩, by rw [hh]; exact h.lim0,
    fun B o v hv => (hc _).trans (h.stab B o v hv), fun i ob B h1 h2 => (h.obj i ob B h1 h2).keep (Ghost.le.refl g) (by rw [hh]) (fun _ x => x), h.excl, h.old, h.lim, h.sorted, h.top, h.lo⟩

theorem GR.drew (h : GR g st w0 base w) : GR g st w0 base w.drew := h.same rfl rfl rfl rfl

theorem heap_new (w : World) (o : Obj) : (w.alloc o).heap[w.heap.size]? = some o := heap_alloc_new w o
theorem heap_old (w : World) (o : Obj) {k : Nat} (h : k < w.heap.size) : (w.alloc o).heap[k]? = w.heap[k]? := Below.heap_alloc w o k h

/-- A new block. What is said of it alone may be new. -/
theorem GR.alloc (h : GR g st w0 base w) (o : Obj) {g' : Ghost} (hl : g.le g') (hst : ∀ B x, B ≠ w.heap.size → g'.st B x = g.st B x)
    (hnew : ∀ x v, g'.st w.heap.size x = some v → (w.alloc o).cell? ⟨w.heap.size, x, none⟩ = some v)
    (hκ : ∀ i ob B, hget st.H i = some ob → g'.κ i = some B → g.κ i = some B ∨ (B = w.heap.size ∧ g.κ i = none ∧ ObR g' (w.alloc o) ob i B))
    (hone : ∀ i j, g'.κ i = some w.heap.size → g'.κ j = some w.heap.size → g.κ i = none → g.κ j = none → i = j)
    (hlim : ∀ i, st.n ≤ i → g'.κ i = none ∧ g'.θ i = none) (hθ : ∀ i ob B, hget st.H i = some ob → g.κ i = some B → ∀ x, g'.θ i = some x → g.θ i = some x := by exact fun _ _ _ _ _ _ h => h) : GR g' st w0 base (w.alloc o) := by
  have hold : ∀ i ob B, hget st.H i = some ob → g.κ i = some B → B < w.heap.size := fun i ob B h1 h2 => (h.obj i ob B h1 h2).lt
  refine ⟨h.below.alloc h.lim0 o, by simp; have := h.lim0; omega, ?_, ?_, ?_, ?_, hlim, h.sorted, h.top, fun B o hB => (hst B o (by have := h.lim0; omega)).trans (h.lo B o hB)⟩
  · intro B x v hv
    by_cases hB : B = w.heap.size
    · subst hB; exact hnew x v hv
    · rw [hst B x hB] at hv
      have := h.stab B x v hv
      rw [World.cell?_alloc_lt _ _ _ (lt_of_cell this)]; exact this
  · intro i ob B h1 h2
    rcases hκ i ob B h1 h2 with h3 | ⟨rfl, _, h4⟩
    · have hlt := hold i ob B h1 h3
      refine (h.obj i ob B h1 h3).keep hl (heap_old w o hlt) (fun x hx => ?_) (hθ i ob B h1 h3)
      rw [hst B x (by omega)]; exact hx
    · exact h4
  · intro i j oi oj B h1 h2 h3 h4
    rcases hκ i oi B h1 h3 with a | ⟨a1, a2, _⟩ <;> rcases hκ j oj B h2 h4 with b | ⟨b1, b2, _⟩
    · exact h.excl i j oi oj B h1 h2 a b
    · have := hold i oi B h1 a; omega
    · have := hold j oj B h2 b; omega
    · subst a1; exact hone i j h3 h4 a2 b2
  · intro i ob B h1 h2
    rcases hκ i ob B h1 h2 with h3 | ⟨rfl, _⟩
    · exact h.old i ob B h1 h3
    · exact h.lim0

/-- A ghost with a row of cells that never change. -/
def Ghost.withRow (g : Ghost) (B : Nat) (vs : List Value) : Ghost := { g with st := fun b o => if b = B then vs[o]? else g.st b o }
def Ghost.withκ (g : Ghost) (i B : Nat) : Ghost := { g with κ := fun j => if j = i then some B else g.κ j }
def Ghost.withθ (g : Ghost) (i : Nat) (x : Nat × Nat × Nat) : Ghost := { g with θ := fun j => if j = i then some x else g.θ j }

theorem Ghost.le_withκ {i B : Nat} (h : g.κ i = none) : g.le (g.withκ i B) :=
  ⟨fun j b hj => by simp only [withκ]; split; (rename_i e; subst e; rw [h] at hj; cases hj); exact hj, fun _ _ h => h, fun _ _ _ h => h⟩
theorem Ghost.le_withθ {i : Nat} {x : Nat × Nat × Nat} (h : g.θ i = none) : g.le (g.withθ i x) :=
  ⟨fun _ _ h => h, fun j b hj => by simp only [withθ]; split; (rename_i e; subst e; rw [h] at hj; cases hj); exact hj, fun _ _ _ h => h⟩
theorem Ghost.le_withRow {B : Nat} {vs : List Value} (h : ∀ o, g.st B o = none) : g.le (g.withRow B vs) :=
  ⟨fun _ _ h => h, fun _ _ h => h, fun b o v hv => by simp only [withRow]; split; (rename_i e; subst e; rw [h] at hv; cases hv); exact hv⟩

theorem Ghost.row_withRow (B : Nat) (vs : List Value) : (g.withRow B vs).row B 0 vs := fun i v hv => by simp [Ghost.withRow, hv]

theorem GR.st_new (h : GR g st w0 base w) {B : Nat} (hB : w.heap.size ≤ B) (o : Nat) : g.st B o = none := by
  cases hs : g.st B o with
  | none => rfl
  | some v => have := h.st_lt hs; omega

/-- A new block that never changes. -/
theorem GR.alloc_row (h : GR g st w0 base w) (vs : List Value) (more : Array Value) (elem : TypeId) (fz : Nat × Nat) :
    GR (g.withRow w.heap.size vs) st w0 base (w.alloc (.cells (vs.toArray ++ more) elem fz)) ∧ g.le (g.withRow w.heap.size vs) := by
  have hl : g.le (g.withRow w.heap.size vs) := Ghost.le_withRow (h.st_new (Nat.le_refl _))
  refine ⟨h.alloc _ hl (fun B x hB => by simp [Ghost.withRow, hB]) (fun x v hv => ?_) (fun i ob B h1 h2 => .inl h2) (fun i j h1 _ h3 _ => ?_) h.lim, hl⟩
  · simp only [Ghost.withRow, if_true] at hv
    have hx : x < vs.length := (List.getElem?_eq_some_iff.1 hv).1
    simp only [World.cell?, heap_new]
    simp only [Option.isSome_none, Bool.false_eq_true, if_false, Array.getElem?_append, List.size_toArray, hx, if_true, List.getElem?_toArray]
    exact hv
  · have h1' : g.κ i = some w.heap.size := h1
    rw [h3] at h1'; cases h1'

/-- A name's object comes to be: cells. -/
theorem GR.mat_cells (h : GR g st w0 base w) {i : Nat} {cs : List V} (hi : hget st.H i = some (.cells cs)) (hκ : g.κ i = none) (hθ0 : g.θ i = none) (hn : i < st.n) {vs : Array Value} (hv : VRs g cs vs.toList) (elem : TypeId) :
    GR (g.withκ i w.heap.size) st w0 base (w.alloc (.cells vs elem)) ∧ g.le (g.withκ i w.heap.size) := by
  have hl : g.le (g.withκ i w.heap.size) := Ghost.le_withκ hκ
  refine ⟨h.alloc _ hl (fun _ _ _ => rfl) (fun x v hx => ?_) (fun j ob B h1 h2 => ?_) (fun j k h1 h2 h3 h4 => ?_) (fun j hj => ?_), hl⟩
  · have := h.st_lt hx; omega
  · simp only [Ghost.withκ] at h2
    split at h2
    · rename_i e; subst e; cases h2
      rw [hi] at h1; cases h1
      exact .inr ⟨rfl, hκ, vs, #[], elem, (0, 0), by rw [Array.append_empty]; exact heap_new w _, hv.mono hl, fun x _ hx => by simp at hx, fun o => h.st_new (Nat.le_refl _) o, fun e tot S he => by have he' : g.θ j = some (e, tot, S) := he; rw [hθ0] at he'; cases he'⟩
    · exact .inl h2
  · simp only [Ghost.withκ] at h1 h2
    split at h1
    · split at h2
      · simp_all
      · rw [h4] at h2; cases h2
    · rw [h3] at h1; cases h1
  · have := h.lim j hj
    simp only [Ghost.withκ]
    rw [if_neg (by omega)]
    exact this

theorem GR.mat_map (h : GR g st w0 base w) {i : Nat} (hi : hget st.H i = some (.map [])) (hκ : g.κ i = none) (hn : i < st.n) (ck : Nat) :
    GR (g.withκ i w.heap.size) st w0 base (w.alloc (.map #[] ck)) ∧ g.le (g.withκ i w.heap.size) := by
  have hl : g.le (g.withκ i w.heap.size) := Ghost.le_withκ hκ
  refine ⟨h.alloc _ hl (fun _ _ _ => rfl) (fun x v hx => ?_) (fun j ob B h1 h2 => ?_) (fun j k h1 h2 h3 h4 => ?_) (fun j hj => ?_), hl⟩
  · have := h.st_lt hx; omega
  · simp only [Ghost.withκ] at h2
    split at h2
    · rename_i e; subst e; cases h2
      rw [hi] at h1; cases h1
      exact .inr ⟨rfl, hκ, #[], ck, heap_new w _, .nil, ⟨.nil, fun _ h => by cases h⟩, fun o => h.st_new (Nat.le_refl _) o⟩
    · exact .inl h2
  · simp only [Ghost.withκ] at h1 h2
    split at h1
    · split at h2
      · simp_all
      · rw [h4] at h2; cases h2
    · rw [h3] at h1; cases h1
  · have := h.lim j hj
    simp only [Ghost.withκ]
    rw [if_neg (by omega)]
    exact this

/-- A tip comes to be: a new block whose first cells never change. -/
theorem GR.mat_tip (h : GR g st w0 base w) {i S : Nat} (hi : hget st.H i = some (.tip S)) (hκ : g.κ i = none) (hθ : g.θ i = none) (hn : i < st.n) (vs : List Value) (more : Array Value) (elem : TypeId) (fz : Nat × Nat) {tot : Nat}
    (htot : tot ≤ vs.length + more.size) (hfz : Free fz (vs.length + more.size)) :
    GR (((g.withRow w.heap.size vs).withκ i w.heap.size).withθ i (vs.length, tot, S)) st w0 base (w.alloc (.cells (vs.toArray ++ more) elem fz)) ∧
      g.le (((g.withRow w.heap.size vs).withκ i w.heap.size).withθ i (vs.length, tot, S)) := by
  have hl : g.le (((g.withRow w.heap.size vs).withκ i w.heap.size).withθ i (vs.length, tot, S)) :=
    ((Ghost.le_withRow (h.st_new (Nat.le_refl _))).trans (Ghost.le_withκ hκ)).trans (Ghost.le_withθ hθ)
  refine ⟨h.alloc _ hl (fun B x hB => by simp [Ghost.withRow, Ghost.withκ, Ghost.withθ, hB]) (fun x v hv => ?_) (fun j ob B h1 h2 => ?_) (fun j k h1 h2 h3 h4 => ?_) (fun j hj => ?_) (fun j ob B h1 h2 x hx => ?_), hl⟩
  rotate_right
  · have hji : j ≠ i := fun e => by subst e; rw [hκ] at h2; cases h2
    simpa [Ghost.withθ, Ghost.withκ, Ghost.withRow, hji] using hx
  · simp only [Ghost.withRow, Ghost.withκ, Ghost.withθ, if_true] at hv
    have hx : x < vs.length := (List.getElem?_eq_some_iff.1 hv).1
    simp only [World.cell?, heap_new]
    simp only [Option.isSome_none, Bool.false_eq_true, if_false, Array.getElem?_append, List.size_toArray, hx, if_true, List.getElem?_toArray]
    exact hv
  · simp only [Ghost.withκ, Ghost.withθ] at h2
    split at h2
    · rename_i e; subst e; cases h2
      rw [hi] at h1; cases h1
      refine .inr ⟨rfl, hκ, vs.length, tot, vs.toArray ++ more, elem, fz, by simp [Ghost.withθ], heap_new w _, by simpa using htot, by simpa using hfz, fun o ho => ?_⟩
      simp [Ghost.withRow, Ghost.withκ, Ghost.withθ, ho]
    · exact .inl h2
  · simp only [Ghost.withκ, Ghost.withθ] at h1 h2
    split at h1
    · split at h2
      · simp_all
      · have h2' : g.κ k = some w.heap.size := h2
        rw [h4] at h2'; cases h2'
    · have h1' : g.κ j = some w.heap.size := h1
      rw [h3] at h1'; cases h1'
  · have := h.lim j hj
    simp only [Ghost.withκ, Ghost.withθ]
    rw [if_neg (by omega), if_neg (by omega)]
    exact this

/-- An object's row of cells is written. -/
theorem GR.set_cells (h : GR g st w0 base w) {i B : Nat} {cs cs' : List V} (hi : hget st.H i = some (.cells cs)) (hκ : g.κ i = some B) {vs' more' : Array Value} (hv : VRs g cs' vs'.toList) {arr : Array Value} {elem : TypeId} {fz : Nat × Nat} (hb : w.heap[B]? = some (.cells arr elem fz)) (hsz : (vs' ++ more').size = arr.size) :
    GR g { st with H := hset st.H i (.cells cs') } w0 base (w.setRow B (vs' ++ more')) := by
  obtain ⟨vs, more, elem', fz', hb', hvs, hfz, hst, hrm⟩ := h.obj i _ B hi hκ
  rw [hb] at hb'
  cases hb'
  have get : ∀ j ob b, hget (hset st.H i (.cells cs')) j = some ob → g.κ j = some b → ∃ ob', hget st.H j = some ob' := fun j ob b h1 _ => by
    rw [hget_hset] at h1
    split at h1
    · rename_i e; subst e; exact ⟨_, hi⟩
    · exact ⟨_, h1⟩
  refine ⟨below_setRow h.below (h.old i _ B hi hκ) _, by simp; exact h.lim0, ?_, ?_, ?_, ?_, h.lim, h.sorted.hset _ _, ?_, h.lo⟩
  · intro B' o v hs
    by_cases hB : B' = B
    · subst hB; rw [hst] at hs; cases hs
    · rw [cell_setRow_other _ _ _ _ hB]; exact h.stab B' o v hs
  · intro j ob b h1 h2
    rw [hget_hset] at h1
    split at h1
    · rename_i e; subst e
      rw [hκ] at h2; cases h2
      rw [hi] at h1; cases h1
      exact ⟨vs', more', elem, fz, setRow_heap w B _ _ elem fz hb, hv, by rw [hsz]; exact hfz, hst, fun e tot S he => by rw [hsz]; exact hrm e tot S he⟩
    · rename_i hne
      have hbB : b ≠ B := fun e => hne (h.excl j i ob _ B h1 hi (e ▸ h2) hκ)
      exact (h.obj j ob b h1 h2).keep (Ghost.le.refl g) (setRow_other w B b _ hbB) (fun _ x => x)
  · intro j k oj ok b h1 h2 h3 h4
    obtain ⟨_, h1'⟩ := get j oj b h1 h3
    obtain ⟨_, h2'⟩ := get k ok b h2 h4
    exact h.excl j k _ _ b h1' h2' h3 h4
  · intro j ob b h1 h2
    obtain ⟨_, h1'⟩ := get j ob b h1 h2
    exact h.old j _ b h1' h2
  · intro p hp
    have : p.1 ∈ (hset st.H i (.cells cs')).map (·.1) := List.mem_map_of_mem hp
    rw [hset_keys] at this
    obtain ⟨q, hq, he⟩ := List.mem_map.1 this
    rw [← he]; exact h.top q hq

theorem heap_setObj (w : World) (B k : Nat) (o : Obj) : ({ w with heap := w.heap.setIfInBounds B o } : World).heap[k]? = if k = B then (w.heap[B]?).map (fun _ => o) else w.heap[k]? := by
  by_cases hk : k = B
  · subst hk
    simp only [Array.getElem?_setIfInBounds, if_true]
    rcases Nat.lt_or_ge k w.heap.size with h | h
    · simp [h]
    · simp [Nat.not_lt.2 h]
  · simp [hk, Array.getElem?_setIfInBounds_ne (Ne.symm hk)]

/-- An object's entries are written. -/
theorem GR.set_map (h : GR g st w0 base w) {i B : Nat} {ob0 : Ob} {es' : List (V × V)} (hi : hget st.H i = some ob0) (hκ : g.κ i = some B) {ys : Array MapEntry} {ck0 : Nat} (hb : w.heap[B]? = some (.map ys ck0)) (hst : ∀ o, g.st B o = none) {xs : Array MapEntry} (ck : Nat) (hv : EsR g es' xs.toList) (hsm : Stamped xs.toList ck) :
    GR g { st with H := hset st.H i (.map es') } w0 base { w with heap := w.heap.setIfInBounds B (.map xs ck) } := by
  have hlt : B < w.heap.size := (Array.getElem?_eq_some_iff.1 hb).1
  have get : ∀ j ob b, hget (hset st.H i (.map es')) j = some ob → g.κ j = some b → ∃ ob', hget st.H j = some ob' := fun j ob b h1 _ => by
    rw [hget_hset] at h1
    split at h1
    · rename_i e; subst e; exact ⟨_, hi⟩
    · exact ⟨_, h1⟩
  have hcell : ∀ a : Addr, a.block ≠ B → ({ w with heap := w.heap.setIfInBounds B (.map xs ck) } : World).cell? a = w.cell? a := fun a ha => by
    unfold World.cell?; rw [heap_setObj]; simp [ha]
  have hbase := h.old i _ B hi hκ
  refine ⟨⟨h.below.os, h.below.tape, h.below.output, by simpa using h.below.size, fun k hk => by rw [heap_setObj, if_neg (by omega)]; exact h.below.block k hk⟩, by simpa using h.lim0, ?_, ?_, ?_, ?_, h.lim, h.sorted.hset _ _, ?_, h.lo⟩
  · intro B' o v hs
    by_cases hB : B' = B
    · subst hB; rw [hst] at hs; cases hs
    · rw [hcell _ hB]; exact h.stab B' o v hs
  · intro j ob b h1 h2
    rw [hget_hset] at h1
    split at h1
    · rename_i e; subst e
      rw [hκ] at h2; cases h2
      rw [hi] at h1; cases h1
      exact ⟨xs, ck, by rw [heap_setObj]; simp [hb], hv, hsm, hst⟩
    · rename_i hne
      have hbB : b ≠ B := fun e => hne (h.excl j i ob _ B h1 hi (e ▸ h2) hκ)
      exact (h.obj j ob b h1 h2).keep (Ghost.le.refl g) (by rw [heap_setObj]; simp [hbB]) (fun _ x => x)
  · intro j k oj ok b h1 h2 h3 h4
    obtain ⟨_, h1'⟩ := get j oj b h1 h3
    obtain ⟨_, h2'⟩ := get k ok b h2 h4
    exact h.excl j k _ _ b h1' h2' h3 h4
  · intro j ob b h1 h2
    obtain ⟨_, h1'⟩ := get j ob b h1 h2
    exact h.old j _ b h1' h2
  · intro p hp
    have : p.1 ∈ (hset st.H i (.map es')).map (·.1) := List.mem_map_of_mem hp
    rw [hset_keys] at this
    obtain ⟨q, hq, he⟩ := List.mem_map.1 this
    rw [← he]; exact h.top q hq

theorem hset_get {H : List (Nat × Ob)} {b i : Nat} {x ob : Ob} (h : hget (hset H b x) i = some ob) : (i = b ∧ ob = x) ∨ (i ≠ b ∧ hget H i = some ob) := by
  rw [hget_hset] at h
  split at h
  · rename_i e
    cases hb : hget H b with
    | none => rw [hb] at h; cases h
    | some y => rw [hb] at h; cases h; exact .inl ⟨e, rfl⟩
  · rename_i e; exact .inr ⟨e, h⟩

/-- Another word for an object. -/
theorem GR.reob (h : GR g st w0 base w) {i : Nat} {ob ob' : Ob} (hi : hget st.H i = some ob) (hnew : ∀ B, g.κ i = some B → ObR g w ob i B → ObR g w ob' i B) : GR g { st with H := hset st.H i ob' } w0 base w := by
  have get : ∀ j o, hget (hset st.H i ob') j = some o → ∃ o', hget st.H j = some o' := fun j o hj => by
    rcases hset_get hj with ⟨rfl, _⟩ | ⟨_, hj⟩
    · exact ⟨_, hi⟩
    · exact ⟨_, hj⟩
  refine ⟨h.below, h.lim0, h.stab, fun j o B hj hκ => ?_, fun j k oj ok B h1 h2 h3 h4 => ?_, fun j o B hj hκ => ?_, h.lim, h.sorted.hset _ _, fun p hp => ?_, h.lo⟩
  · rcases hset_get hj with ⟨rfl, rfl⟩ | ⟨_, hj⟩
    · exact hnew B hκ (h.obj j ob B hi hκ)
    · exact h.obj j o B hj hκ
  · obtain ⟨_, h1'⟩ := get j oj h1
    obtain ⟨_, h2'⟩ := get k ok h2
    exact h.excl j k _ _ B h1' h2' h3 h4
  · obtain ⟨_, h1'⟩ := get j o hj
    exact h.old j _ B h1' hκ
  · have : p.1 ∈ (hset st.H i ob').map (·.1) := List.mem_map_of_mem hp
    rw [hset_keys] at this
    obtain ⟨q, hq, he⟩ := List.mem_map.1 this
    rw [← he]; exact h.top q hq

/-- A name's object comes to be. -/
theorem GR.mat (h : GR g st w0 base w) {i : Nat} {ob : Ob} (hi : hget st.H i = some ob) (hκ : g.κ i = none) (hn : i < st.n) (o : Obj) (hob : ObR (g.withκ i w.heap.size) (w.alloc o) ob i w.heap.size) :
    GR (g.withκ i w.heap.size) st w0 base (w.alloc o) ∧ g.le (g.withκ i w.heap.size) := by
  have hl : g.le (g.withκ i w.heap.size) := Ghost.le_withκ hκ
  refine ⟨h.alloc _ hl (fun _ _ _ => rfl) (fun x v hx => ?_) (fun j ob' B h1 h2 => ?_) (fun j k h1 h2 h3 h4 => ?_) (fun j hj => ?_), hl⟩
  · have := h.st_lt hx; omega
  · simp only [Ghost.withκ] at h2
    split at h2
    · rename_i e; subst e; cases h2
      rw [hi] at h1; cases h1
      exact .inr ⟨rfl, hκ, hob⟩
    · exact .inl h2
  · simp only [Ghost.withκ] at h1 h2
    split at h1
    · split at h2
      · simp_all
      · rw [h4] at h2; cases h2
    · rw [h3] at h1; cases h1
  · have := h.lim j hj
    simp only [Ghost.withκ]
    rw [if_neg (by omega)]
    exact this

/-- An object is written whole. -/
theorem GR.set_obj (h : GR g st w0 base w) {i B : Nat} {ob ob' : Ob} (hi : hget st.H i = some ob) (hκ : g.κ i = some B) (hst : ∀ o, g.st B o = none) (o : Obj)
    (hob : ObR g { w with heap := w.heap.setIfInBounds B o } ob' i B) : GR g { st with H := hset st.H i ob' } w0 base { w with heap := w.heap.setIfInBounds B o } := by
  have hlt : B < w.heap.size := (h.obj i ob B hi hκ).lt
  have get : ∀ j o, hget (hset st.H i ob') j = some o → ∃ o', hget st.H j = some o' := fun j o hj => by
    rcases hset_get hj with ⟨rfl, _⟩ | ⟨_, hj⟩
    · exact ⟨_, hi⟩
    · exact ⟨_, hj⟩
  have hcell : ∀ a : Addr, a.block ≠ B → ({ w with heap := w.heap.setIfInBounds B o } : World).cell? a = w.cell? a := fun a ha => by
    unfold World.cell?; rw [heap_setObj]; simp [ha]
  have hbase := h.old i _ B hi hκ
  refine ⟨⟨h.below.os, h.below.tape, h.below.output, by simpa using h.below.size, fun k hk => by rw [heap_setObj, if_neg (by omega)]; exact h.below.block k hk⟩, by simpa using h.lim0, ?_, ?_, ?_, ?_, h.lim, h.sorted.hset _ _, ?_, h.lo⟩
  · intro B' o' v hs
    by_cases hB : B' = B
    · subst hB; rw [hst] at hs; cases hs
    · rw [hcell _ hB]; exact h.stab B' o' v hs
  · intro j oj b h1 h2
    rcases hset_get h1 with ⟨rfl, rfl⟩ | ⟨hne, h1⟩
    · rw [hκ] at h2; cases h2
      exact hob
    · have hbB : b ≠ B := fun e => hne (h.excl j i _ _ B h1 hi (e ▸ h2) hκ)
      exact (h.obj j oj b h1 h2).keep (Ghost.le.refl g) (by rw [heap_setObj]; simp [hbB]) (fun _ x => x)
  · intro j k oj ok b h1 h2 h3 h4
    obtain ⟨_, h1'⟩ := get j oj h1
    obtain ⟨_, h2'⟩ := get k ok h2
    exact h.excl j k _ _ b h1' h2' h3 h4
  · intro j oj b h1 h2
    obtain ⟨_, h1'⟩ := get j oj h1
    exact h.old j _ b h1' h2
  · intro p hp
    have : p.1 ∈ (hset st.H i ob').map (·.1) := List.mem_map_of_mem hp
    rw [hset_keys] at this
    obtain ⟨q, hq, he⟩ := List.mem_map.1 this
    rw [← he]; exact h.top q hq

theorem EsR.get2 {a : List (V × V)} {x : List MapEntry} (h : EsR g a x) : ∀ {e : MapEntry}, e ∈ x → ∃ (i : Nat) (p : V × V), x[i]? = some e ∧ a[i]? = some p ∧ VR g p.1 e.key ∧ VR g p.2 e.val := by
  induction h with
  | nil => intro e he; cases he
  | @cons k v e0 r es p q _ ih =>
    intro e he
    cases he with
    | head => exact ⟨0, (k, v), rfl, rfl, p, q⟩
    | tail _ he =>
      obtain ⟨i, p', h1, h2, h3, h4⟩ := ih he
      exact ⟨i + 1, p', h1, h2, h3, h4⟩

/-- A name's object comes to be, with a word of its own. -/
theorem GR.mat2 (h : GR g st w0 base w) {i : Nat} {ob : Ob} (hi : hget st.H i = some ob) (hκ : g.κ i = none) (hθ : g.θ i = none) (hn : i < st.n) (x : Nat × Nat × Nat) (o : Obj) (hob : ObR ((g.withκ i w.heap.size).withθ i x) (w.alloc o) ob i w.heap.size) :
    GR ((g.withκ i w.heap.size).withθ i x) st w0 base (w.alloc o) ∧ g.le ((g.withκ i w.heap.size).withθ i x) := by
  have hl : g.le ((g.withκ i w.heap.size).withθ i x) := (Ghost.le_withκ hκ).trans (Ghost.le_withθ hθ)
  refine ⟨h.alloc _ hl (fun _ _ _ => rfl) (fun x v hx => ?_) (fun j ob' B h1 h2 => ?_) (fun j k h1 h2 h3 h4 => ?_) (fun j hj => ?_) (fun j ob B h1 h2 y hy => ?_), hl⟩
  · have := h.st_lt hx; omega
  · simp only [Ghost.withκ, Ghost.withθ] at h2
    split at h2
    · rename_i e; subst e; cases h2
      rw [hi] at h1; cases h1
      exact .inr ⟨rfl, hκ, hob⟩
    · exact .inl h2
  · simp only [Ghost.withκ, Ghost.withθ] at h1 h2
    split at h1
    · split at h2
      · simp_all
      · have h2' : g.κ k = some w.heap.size := h2
        rw [h4] at h2'; cases h2'
    · have h1' : g.κ j = some w.heap.size := h1
      rw [h3] at h1'; cases h1'
  · have := h.lim j hj
    simp only [Ghost.withκ, Ghost.withθ]
    rw [if_neg (by omega), if_neg (by omega)]
    exact this
  · have hji : j ≠ i := fun e => by subst e; rw [hκ] at h2; cases h2
    simpa [Ghost.withθ, Ghost.withκ, hji] using hy

theorem GR.map_obj (h : GR g st w0 base w) {b B : Nat} {es : List (V × V)} (hb : hgetM st.H b = some es) (hκ : g.κ b = some B) :
    ∃ ob es' ck, hget st.H b = some ob ∧ w.heap[B]? = some (.map es' ck) ∧ EsR g es es'.toList ∧ Stamped es'.toList ck ∧ ∀ o, g.st B o = none := by
  unfold hgetM at hb
  cases hg : hget st.H b with
  | none => rw [hg] at hb; cases hb
  | some ob =>
    rw [hg] at hb
    have ho := h.obj b ob B hg hκ
    cases ob <;> simp only [Option.bind_some, obMap, Option.some.injEq, reduceCtorEq] at hb
    · subst hb; obtain ⟨es', ck, h1, h2, h3, h4⟩ := ho; exact ⟨_, es', ck, rfl, h1, h2, h3, h4⟩
    · subst hb; obtain ⟨es', h1, h2, h3, h4, h5⟩ := ho; exact ⟨_, es', _, rfl, h1, h2, h4, h5⟩
    · subst hb; obtain ⟨es', ck, h1, h2, h3, h4, _⟩ := ho; exact ⟨_, es', ck, rfl, h1, h2, h3, h4⟩
end
end Go.Vm
/- What an operation yields by the evaluator, it yields in the model: operations that leave memory alone. -/
namespace Go.Vm
open Go Go.RowKit

/-! ### Words of the program's tables -/
section
variable {C : Cfg} {g : Ghost} {w : World}

theorem szOf_info {t : TypeId} {s : Nat} (h : szOf C t = some s) : ∃ i, C.P.info? t = some i ∧ i.size = s := by
  unfold szOf at h
  cases hi : C.P.info? t with
  | none => rw [hi] at h; cases h
  | some i => rw [hi] at h; exact ⟨i, rfl, by simpa using h⟩

theorem run_szOf {t : TypeId} {s : Nat} (h : szOf C t = some s) (w : World) : (sizeOf t).run C.P w = .ok s w := by
  obtain ⟨i, h1, h2⟩ := szOf_info h
  simp [sizeOf, typeInfo, h1, h2]

theorem run_isAggT {t : TypeId} {d : TypeDesc} (h : C.P.underlying t = some d) (w : World) : (isAgg t).run C.P w = .ok (isAggT d) w := by
  simp only [isAgg, Sem.run_bind, run_underlying h, Result.andThen_ok]
  cases d <;> rfl

theorem zeroV_info {t : TypeId} {z : V} (h : zeroV C t = some z) : ∃ i zv, C.P.info? t = some i ∧ i.zero = some zv ∧ z = ofVal zv := by
  unfold zeroV at h
  cases hi : C.P.info? t with
  | none => rw [hi] at h; cases h
  | some i =>
    rw [hi] at h
    cases hz : i.zero with
    | none => rw [Option.bind_some, hz] at h; cases h
    | some zv => rw [Option.bind_some, hz] at h; exact ⟨i, zv, rfl, hz, by simpa using h.symm⟩

theorem run_zeroV {t : TypeId} {z : V} (h : zeroV C t = some z) (w : World) : ∃ zv, (zeroValue t).run C.P w = .ok zv w ∧ z = ofVal zv := by
  obtain ⟨i, zv, h1, h2, h3⟩ := zeroV_info h
  exact ⟨zv, by simp [zeroValue, typeInfo, h1, h2], h3⟩

/-! ### Values that are written down -/
theorem ofScalar_VR (g : Ghost) (v : Value) : VR g (ofScalar v) v := by
  unfold ofScalar
  split
  · rfl
  · rfl
  · simp only [VR]
  · rfl
  · exact ⟨none, 0, [], 0, rfl, rfl, rfl, Nat.le_refl _, fun h => absurd rfl h⟩
  · rfl
  · rename_i fn fi ca
    split
    · rename_i h
      simp only [Bool.and_eq_true, Array.isEmpty_iff] at h
      exact ⟨fi, ca, rfl, by rw [h.1]; rfl, by rw [h.2]; rfl⟩
    · trivial
  · rfl
  · rfl
  · trivial

theorem ofCell_VR (g : Ghost) : ∀ v : Value, VR g (ofCell v) v
  | .iface _ x => ⟨x, rfl, ofScalar_VR g x⟩
  | .bool b => ofScalar_VR g (.bool b)
  | .int k n => ofScalar_VR g (.int k n)
  | .float k n => ofScalar_VR g (.float k n)
  | .complex k a b => ofScalar_VR g (.complex k a b)
  | .string s => ofScalar_VR g (.string s)
  | .pointer a => ofScalar_VR g (.pointer a)
  | .slice a l c => ofScalar_VR g (.slice a l c)
  | .map r => ofScalar_VR g (.map r)
  | .chan r => ofScalar_VR g (.chan r)
  | .func f a b => ofScalar_VR g (.func f a b)
  | .nilFunc => ofScalar_VR g (.nilFunc)
  | .nilIface => ofScalar_VR g (.nilIface)
  | .agg c => ofScalar_VR g (.agg c)
  | .tuple c => ofScalar_VR g (.tuple c)

theorem ofCells_VRs (g : Ghost) : ∀ (l : List Value), l.all (·.oneCell') = true → VRs g (l.map ofCell) l
  | [], _ => rfl
  | v :: l, h => by
    simp only [List.all_cons, Bool.and_eq_true] at h
    exact ⟨v, l, rfl, h.1, ofCell_VR g v, ofCells_VRs g l h.2⟩

theorem ofCells_VRl (g : Ghost) : ∀ (l : List Value), VRl g (l.map ofCell) l
  | [] => rfl
  | v :: l => ⟨v, l, rfl, ofCell_VR g v, ofCells_VRl g l⟩

theorem ofVal_VR (g : Ghost) : ∀ v : Value, VR g (ofVal v) v
  | .agg cs => by
    simp only [ofVal]
    split
    · rename_i h; exact ⟨cs, rfl, ofCells_VRs g _ h⟩
    · trivial
  | .tuple vs => ⟨vs, rfl, ofCells_VRl g _⟩
  | .bool b => ofCell_VR g (.bool b)
  | .int k n => ofCell_VR g (.int k n)
  | .float k n => ofCell_VR g (.float k n)
  | .complex k a b => ofCell_VR g (.complex k a b)
  | .string s => ofCell_VR g (.string s)
  | .pointer a => ofCell_VR g (.pointer a)
  | .slice a l c => ofCell_VR g (.slice a l c)
  | .map r => ofCell_VR g (.map r)
  | .chan r => ofCell_VR g (.chan r)
  | .func f a b => ofCell_VR g (.func f a b)
  | .nilFunc => ofCell_VR g (.nilFunc)
  | .nilIface => ofCell_VR g (.nilIface)
  | .iface t x => ofCell_VR g (.iface t x)

/-! ### Parts of rows of cells -/
theorem partV_sound {t : TypeId} {cs : List V} {off : Nat} {v : V} (h : partV C t cs off = some v) {vs : Array Value} (hv : VRs g cs vs.toList) (w : World) :
    ∃ v', (part t vs off).run C.P w = .ok v' w ∧ VR g v v' := by
  unfold partV at h
  cases hu : C.P.underlying t with
  | none => rw [hu] at h; cases h
  | some d =>
    rw [hu] at h
    simp only [part, Sem.run_bind, run_isAggT hu, Result.andThen_ok]
    by_cases ha : isAggT d = true
    · simp only [ha, if_true] at h ⊢
      cases hs : szOf C t with
      | none => rw [hs] at h; cases h
      | some s =>
        rw [hs] at h
        simp only at h
        split at h
        · rename_i hle
          cases h
          simp only [Sem.run_bind, run_szOf hs, Result.andThen_ok, Sem.run_pure]
          refine ⟨_, rfl, _, rfl, ?_⟩
          have := (hv.drop off).take s
          rw [Array.toList_extract, List.extract_eq_take_drop]
          rw [Nat.add_sub_cancel_left]
          exact this
        · cases h
    · simp only [ha, Bool.false_eq_true, if_false] at h ⊢
      obtain ⟨x, hx, _, hr⟩ := hv.get h
      have hx' : vs[off]? = some x := by rw [← Array.getElem?_toList]; exact hx
      simp only [hx', Sem.run_pure]
      exact ⟨x, rfl, hr⟩

/-- A stretch of memory that reads as these values. -/
def Reads (w : World) (B o : Nat) (vs : List Value) : Prop := ∀ i v, vs[i]? = some v → w.cell? ⟨B, o + i, none⟩ = some v

theorem add_addr (B o n : Nat) : (⟨B, o, none⟩ : Addr).add n = ⟨B, o + n, none⟩ := by
  unfold Addr.add; split
  · rename_i h; subst h; rfl
  · rfl

theorem run_loadCells_reads {B o : Nat} {vs : List Value} (h : Reads w B o vs) : (loadCells ⟨B, o, none⟩ vs.length).run C.P w = .ok vs.toArray w :=
  run_loadCells_list w ⟨B, o, none⟩ vs fun j v hj => by rw [add_addr]; exact h j v hj

/-- 'part', out of memory. -/
theorem loadVar_sound {t : TypeId} {cs : List V} {off B o : Nat} {v : V} (h : partV C t cs off = some v) {vs : List Value} (hv : VRs g cs vs) (hr : Reads w B o vs) :
    ∃ v', (loadVar t ⟨B, o + off, none⟩).run C.P w = .ok v' w ∧ VR g v v' := by
  unfold partV at h
  cases hu : C.P.underlying t with
  | none => rw [hu] at h; cases h
  | some d =>
    rw [hu] at h
    simp only [loadVar, Sem.run_bind, run_isAggT hu, Result.andThen_ok]
    by_cases ha : isAggT d = true
    · simp only [ha, if_true] at h ⊢
      cases hs : szOf C t with
      | none => rw [hs] at h; cases h
      | some s =>
        rw [hs] at h
        simp only at h
        split at h
        · rename_i hle
          cases h
          have hlen : ((vs.drop off).take s).length = s := by rw [List.length_take, List.length_drop, ← hv.length]; omega
          have hrd : Reads w B (o + off) ((vs.drop off).take s) := fun i v hi => by
            rw [List.getElem?_take] at hi
            split at hi
            · rw [List.getElem?_drop] at hi; have := hr _ _ hi; rwa [← Nat.add_assoc] at this
            · cases hi
          have hl := run_loadCells_reads (C := C) hrd
          rw [hlen] at hl
          simp only [Sem.run_bind, run_szOf hs, Result.andThen_ok, Sem.run_pure, hl]
          exact ⟨_, rfl, _, rfl, (hv.drop off).take s⟩
        · cases h
    · simp only [ha, Bool.false_eq_true, if_false] at h ⊢
      obtain ⟨x, hx, _, hxr⟩ := hv.get h
      have := hr off x hx
      rw [run_load, this]
      exact ⟨x, rfl, hxr⟩

/-! ### What objects hold -/
section
variable {st : St} {w0 : W0} {base : Nat}
theorem GR.reads (h : GR g st w0 base w) {B o : Nat} {vs : List Value} (hr : g.row B o vs) : Reads w B o vs := fun i v hi => h.stab _ _ _ (hr i v hi)

theorem GR.reads_obj (h : GR g st w0 base w) {b B : Nat} {cs : List V} (hb : hget st.H b = some (.cells cs)) (hκ : g.κ b = some B) :
    ∃ vs, VRs g cs vs ∧ Reads w B 0 vs ∧ True := by
  obtain ⟨vs, more, elem, fz, h1, h2, _, _⟩ := h.obj b _ B hb hκ
  refine ⟨vs.toList, h2, fun i v hi => ?_, trivial⟩
  simp only [World.cell?, h1, Option.isSome_none, Bool.false_eq_true, if_false, Nat.zero_add]
  rw [Array.getElem?_append_left (by rw [← Array.length_toList]; exact (List.getElem?_eq_some_iff.1 hi).1), ← Array.getElem?_toList]; exact hi
end

/-! ### Strings -/
theorem bytes_toList (l : List UInt8) : (ByteArray.mk l.toArray).toList = l := by rw [ByteArray.toList_eq]
theorem bytes_size (l : List UInt8) : (ByteArray.mk l.toArray).size = l.length := rfl
theorem bytes_append (a b : List UInt8) : ByteArray.mk a.toArray ++ ByteArray.mk b.toArray = ByteArray.mk (a ++ b).toArray := by
  apply ByteArray.ext; simp
theorem bytes_extract (s : List UInt8) (l h : Nat) : (ByteArray.mk s.toArray).extract l h = ByteArray.mk ((s.take h).drop l).toArray := by
  apply ByteArray.ext
  apply Array.toList_inj.1
  simp [ByteArray.data_extract, List.drop_take]

theorem run_stringOp {op : BinOp} {a b : List UInt8} {v : V} (h : strBin op a b = some v) (w : World) :
    ∃ v', (Op.stringOp op ⟨a.toArray⟩ ⟨b.toArray⟩).run C.P w = .ok v' w ∧ VR g v v' := by
  cases op <;> simp only [strBin, Option.some.injEq, reduceCtorEq] at h
  case add =>
    split at h
    · rename_i hle
      cases h
      have : ¬ (((a.toArray.size + b.toArray.size : Nat) : Int) > IntKind.i64.max) := by
        simp only [List.size_toArray, IntKind.max, IntKind.signed, IntKind.bits, if_true]
        omega
      simp only [Op.stringOp, bytes_size]
      rw [if_neg (by simpa using this)]
      exact ⟨_, rfl, by simp only [VR]; rw [bytes_append]⟩
    · cases h
  all_goals
    subst h
    simp only [Op.stringOp, bytes_toList, bytesLess, Sem.run_pure]
    exact ⟨_, rfl, rfl⟩

/-! ### Arithmetic -/
theorem run_intBin {op : BinOp} {k : IntKind} {a b : Int} {v : V} (h : intBin op k a b = some v) (t : TypeId) (w : World) :
    ∃ v', (binOp op t (.int k a) (.int k b)).run C.P w = .ok v' w ∧ VR g v v' := by
  cases op <;> simp only [intBin, Option.some.injEq, reduceCtorEq] at h
  case quo =>
    split at h
    · cases h
    · rename_i hb; cases h; simp only [binOp, Op.intDiv, hb, if_false, ne_eq, not_true]; exact ⟨_, rfl, rfl⟩
  case rem =>
    split at h
    · cases h
    · rename_i hb; cases h; simp only [binOp, Op.intDiv, hb, if_false, ne_eq, not_true]; exact ⟨_, rfl, rfl⟩
  all_goals
    subst h
    simp only [binOp, Op.intArith, Op.intBits, Op.intCmp, ne_eq, not_true, if_false]
    exact ⟨_, rfl, rfl⟩

theorem run_shiftBin {op : BinOp} {k k' : IntKind} {a b : Int} {v : V} (h : shiftBin op k a b = some v) (hs : op = .shl ∨ op = .shr) (t : TypeId) (w : World) :
    ∃ v', (binOp op t (.int k a) (.int k' b)).run C.P w = .ok v' w ∧ VR g v v' := by
  unfold shiftBin at h
  split at h
  · cases h
  · rename_i hb
    rcases hs with rfl | rfl <;> cases h <;> simp only [binOp, Op.shift, hb, if_false] <;> exact ⟨_, rfl, rfl⟩

theorem run_unV {op : UnOp} {x v : V} (h : unV op x = some v) {x' : Value} (hx : VR g x x') (w : World) : ∃ v', (Op.unary op x').run C.P w = .ok v' w ∧ VR g v v' := by
  cases op <;> cases x <;> simp only [unV, Option.some.injEq, reduceCtorEq] at h <;> subst h <;> simp only [VR] at hx <;> subst hx <;>
    simp only [Op.unary, Op.intArith, Op.intBits] <;> exact ⟨_, rfl, rfl⟩

/-! ### Equality -/
theorem eqU_sound {u : TypeDesc} {t : TypeId} {x y : V} {r : Bool} (h : eqU u x y = some r) (hu : C.P.underlying t = some u) {x' y' : Value} (hx : VR g x x') (hy : VR g y y') (d : Nat) (w : World) :
    (Op.equalIn (d + 1) t x' y').run C.P w = .ok r w := by
  unfold eqU at h
  split at h
  case h_2 =>
    split at h
    · rename_i hk; subst hk; cases h; simp only [VR] at hx hy; subst hx; subst hy; simp [Op.equalIn, run_underlying hu]
    · cases h
  all_goals cases h
  case h_1 => simp only [VR] at hx hy; subst hx; subst hy; simp [Op.equalIn, run_underlying hu]
  case h_3 =>
    simp only [VR] at hx hy; subst hx; subst hy
    simp only [Op.equalIn, Sem.run_bind, run_underlying hu, Result.andThen_ok, Sem.run_pure, beq_toListBytes, bytes_toList]
  all_goals
    simp only [VR] at hx hy
    first
      | (subst hx; subst hy; simp [Op.equalIn, run_underlying hu]; done)
      | (obtain ⟨_, _, rfl⟩ := hy; subst hx; simp [Op.equalIn, run_underlying hu]; done)
      | (obtain ⟨_, _, rfl⟩ := hx; subst hy; simp [Op.equalIn, run_underlying hu]; done)
      | (obtain ⟨_, rfl, _⟩ := hy; subst hx; simp [Op.equalIn, run_underlying hu]; done)
      | (obtain ⟨_, rfl, _⟩ := hx; subst hy; simp [Op.equalIn, run_underlying hu]; done)
      | (obtain ⟨_, _, _, rfl, _⟩ := hy; subst hx; simp [Op.equalIn, run_underlying hu]; done)
      | (obtain ⟨_, _, _, rfl, _⟩ := hx; subst hy; simp [Op.equalIn, run_underlying hu]; done)
      | (obtain ⟨_, _, rfl, _⟩ := hy; subst hx; simp [Op.equalIn, run_underlying hu]; done)
      | (obtain ⟨_, _, rfl, _⟩ := hx; subst hy; simp [Op.equalIn, run_underlying hu]; done)

/-- What is asked of the program's tables. -/
def opsOk (N : Nat) (ops : Array Oper) : Bool := ops.toList.all fun o => match o.dst with | some d => decide (d < N) | none => true
def codeOk (N : Nat) : Code → Bool
  | .region _ ops _ => opsOk N ops
  | .seq a b => codeOk N a && codeOk N b
  | .cond _ a b => codeOk N a && codeOk N b
  | .block _ b => codeOk N b
  | .loop b => codeOk N b
  | .scope b => codeOk N b
  | .rangeFunc _ ps a b => ps.toList.all (fun p => decide (p < N)) && codeOk N a && codeOk N b
  | _ => true
def funcOk (fn : Func) : Bool := (match fn.body with | some c => codeOk fn.ntmps c | none => true) && fn.name != "runtime.NumGoroutine"

structure COk (C : Cfg) : Prop where
  eqs : ∀ t ∈ C.eqs, C.P.eqGuardType C.P.depth t = false ∧ C.P.stoodInHeld t = false
  funcs : C.P.funcs.toList.all funcOk = true
  mixed : C.P.follows .mixedOrders = true
  inv : ∀ w w' : World, (∀ k, k < C.lo → w'.heap[k]? = w.heap[k]?) → C.I w → C.I w'

theorem eqF_sound {E : TypeId → V → V → Option Bool} {d : Nat} (hE : ∀ t x y r x' y', E t x y = some r → VR g x x' → VR g y y' → ∀ w, (Op.equalIn d t x' y').run C.P w = .ok r w) :
    ∀ (fs : List Field) {xs ys : List V} {r : Bool} {us vs : Array Value}, eqF C E fs xs ys = some r → VRs g xs us.toList → VRs g ys vs.toList → ∀ w, (Op.eqFields d us vs fs).run C.P w = .ok r w
  | [], xs, ys, r, us, vs, h, _, _, w => by simp only [eqF, Option.some.injEq] at h; subst h; simp [Op.eqFields]
  | f :: fs, xs, ys, r, us, vs, h, hx, hy, w => by
    simp only [eqF] at h
    simp only [Op.eqFields]
    by_cases hn : f.name = "_"
    · simp only [hn, if_true] at h
      simp only [hn, ne_eq, not_true, if_false]
      exact eqF_sound hE fs h hx hy w
    · simp only [hn, if_false] at h
      simp only [hn, ne_eq, not_false_eq_true, if_true, Sem.run_bind]
      cases ha : partV C f.type xs f.offset with
      | none => rw [ha] at h; cases h
      | some a =>
        cases hb : partV C f.type ys f.offset with
        | none => rw [ha, hb] at h; cases h
        | some b =>
          rw [ha, hb] at h
          simp only at h
          obtain ⟨a', h1, h2⟩ := partV_sound ha hx w
          obtain ⟨b', h3, h4⟩ := partV_sound hb hy w
          cases hr : E f.type a b with
          | none => rw [hr] at h; cases h
          | some q =>
            rw [hr] at h
            have h5 := hE f.type a b q a' b' hr h2 h4 w
            simp only [h1, Result.andThen_ok, h3, h5]
            cases q
            · simp only [Option.some.injEq] at h; subst h; simp
            · simp only at h; simp only [Bool.not_true, Bool.false_eq_true, if_false]; exact eqF_sound hE fs h hx hy w

theorem eqT_sound (hC : COk C) : ∀ (n : Nat) {t : TypeId} {x y : V} {r : Bool}, eqT C n t x y = some r → ∀ {x' y' : Value}, VR g x x' → VR g y y' → ∀ d, n ≤ d → ∀ w, (Op.equalIn d t x' y').run C.P w = .ok r w
  | 0, _, _, _, _, h, _, _, _, _, _, _, _ => by simp [eqT] at h
  | n + 1, t, x, y, r, h, x', y', hx, hy, d, hd, w => by
    obtain ⟨d, rfl⟩ : ∃ e, d = e + 1 := ⟨d - 1, by omega⟩
    simp only [eqT] at h
    cases hu : C.P.underlying t with
    | none => rw [hu] at h; cases h
    | some u =>
      rw [hu] at h
      by_cases hst : ∃ fs, u = .struct fs
      · obtain ⟨fs, rfl⟩ := hst
        simp only at h
        cases x <;> first | cases h | skip
        cases y <;> first | cases h | skip
        rename_i xs ys
        simp only at h
        split at h
        · rename_i hc
          simp only [VR] at hx hy
          obtain ⟨us, rfl, hx⟩ := hx
          obtain ⟨vs, rfl, hy⟩ := hy
          have hmem : t ∈ C.eqs := by simpa using hc
          have hf : C.P.fieldsOf t = fs := by unfold Program.fieldsOf; rw [hu]
          have hrun := run_equalIn_struct (P := C.P) w d t us vs (by rw [hu, hf]) (hC.eqs t hmem).2
          rw [hrun, hf]
          exact eqF_sound (fun t x y r x' y' he hx hy w => eqT_sound hC n he hx hy d (by omega) w) fs.toList h hx hy w
        · cases h
      · have h' : eqU u x y = some r := by
          cases u <;> first | exact h | exact absurd ⟨_, rfl⟩ hst
        exact eqU_sound h' hu hx hy d w
termination_by structural n => n
end
end Go.Vm
/- What an operation yields by the evaluator, it yields in the model: each operation that leaves memory alone. -/
namespace Go.Vm
open Go Go.RowKit

section
variable {C : Cfg} {g : Ghost} {w : World}

theorem eqT_agg {n : Nat} {t : TypeId} {xs : List V} {y : V} {r : Bool} (h : eqT C n t (.agg xs) y = some r) : t ∈ C.eqs := by
  cases n with
  | zero => simp [eqT] at h
  | succ n =>
    simp only [eqT] at h
    split at h
    · cases h
    · split at h
      · split at h
        · rename_i hc; simpa using hc
        · cases h
      · cases h
    · rename_i u _ _; cases u <;> simp [eqU] at h

theorem VR_nilIface {x : V} (h : VR g x .nilIface) : x = .niliface ∨ x = .any := by
  cases x <;> simp only [VR] at h <;> first
    | exact .inl rfl
    | exact .inr rfl
    | (cases h; done)
    | (obtain ⟨_, _, h⟩ := h; cases h; done)
    | (obtain ⟨_, h, _⟩ := h; cases h; done)
    | (obtain ⟨_, _, _, h, _⟩ := h; cases h; done)
    | (obtain ⟨_, _, h, _⟩ := h; cases h; done)
    | (obtain ⟨_, _, _, _, h, _⟩ := h; cases h; done)

theorem VR_aggVal {x : V} {cs : Array Value} (h : VR g x (.agg cs)) : (∃ xs, x = .agg xs) ∨ x = .any := by
  cases x <;> simp only [VR] at h <;> first
    | exact .inl ⟨_, rfl⟩
    | exact .inr rfl
    | (cases h; done)
    | (obtain ⟨_, _, h⟩ := h; cases h; done)
    | (obtain ⟨_, h, _⟩ := h; cases h; done)
    | (obtain ⟨_, _, _, h, _⟩ := h; cases h; done)
    | (obtain ⟨_, _, h, _⟩ := h; cases h; done)
    | (obtain ⟨_, _, _, _, h, _⟩ := h; cases h; done)

theorem eqT_any {n : Nat} {t : TypeId} {y : V} : eqT C n t .any y = none := by
  cases n with
  | zero => rfl
  | succ n =>
    simp only [eqT]
    split
    · rfl
    · rfl
    · rename_i u _ _; cases u <;> rfl

theorem eqT_niliface {n : Nat} {t : TypeId} : eqT C n t .niliface .niliface = none := by
  cases n with
  | zero => rfl
  | succ n =>
    simp only [eqT]
    split
    · rfl
    · rfl
    · rename_i u _ _; cases u <;> rfl

theorem eqT_nilany {n : Nat} {t : TypeId} : eqT C n t .niliface .any = none := by
  cases n with
  | zero => rfl
  | succ n =>
    simp only [eqT]; split
    · rfl
    · rfl
    · rename_i u _ _; cases u <;> rfl

theorem run_eqGuard (op : BinOp) (t : TypeId) (ox oy : Operand) (a b : Value) (h1 : a = .nilIface → b = .nilIface → (isNilWord ox || isNilWord oy) = true)
    (h2 : (∃ c, a = .agg c) → C.P.eqGuardType C.P.depth t = false) (w : World) : (eqGuard op t ox oy a b).run C.P w = .ok () w := by
  have key : ∀ op, op = .eql ∨ op = .neq → (eqGuard op t ox oy a b).run C.P w = .ok () w := by
    intro op hop
    cases a <;> first
      | (rcases hop with rfl | rfl <;> rfl)
      | skip
    · cases b <;> first
        | (rcases hop with rfl | rfl <;> rfl)
        | skip
      have := h1 rfl rfl
      rcases hop with rfl | rfl <;> cases ox <;> cases oy <;> first
        | rfl
        | (simp [isNilWord] at this; done)
    · cases b <;> first
        | (rcases hop with rfl | rfl <;> rfl)
        | skip
      have := h2 ⟨_, rfl⟩
      rcases hop with rfl | rfl <;> simp [eqGuard, this]
  cases op <;> first
    | exact key _ (.inl rfl)
    | exact key _ (.inr rfl)
    | rfl

/-- The guard ahead of '==' lets by what the evaluator knows. -/
theorem run_eqGuard_eqT (hC : COk C) {n : Nat} {op : BinOp} {t : TypeId} {x y : V} {r : Bool} (h : eqT C n t x y = some r) {x' y' : Value} (hx : VR g x x') (hy : VR g y y') (ox oy : Operand) (w : World) :
    (eqGuard op t ox oy x' y').run C.P w = .ok () w := by
  refine run_eqGuard op t ox oy x' y' (fun e1 e2 => ?_) (fun ⟨c, e⟩ => ?_) w
  · exfalso
    subst e1; subst e2
    rcases VR_nilIface hx with rfl | rfl <;> rcases VR_nilIface hy with rfl | rfl
    · rw [eqT_niliface] at h; cases h
    · rw [eqT_nilany] at h; cases h
    · rw [eqT_any] at h; cases h
    · rw [eqT_any] at h; cases h
  · subst e
    rcases VR_aggVal hx with ⟨xs, rfl⟩ | rfl
    · exact (hC.eqs t (eqT_agg h)).1
    · rw [eqT_any] at h; cases h

/-- A value that is neither a number nor a text. -/
def plainV : V → Bool
  | .bool _ | .nilptr | .ptr _ _ | .cptr _ | .iface _ _ | .niliface | .nilmap | .map _ | .nilfunc | .func _ _ _ | .agg _ => true
  | _ => false
def numVal : Value → Bool
  | .int _ _ | .float _ _ | .complex _ _ _ | .string _ => true
  | _ => false

theorem plainV_num {x : V} (h : plainV x = true) {x' : Value} (hx : VR g x x') : numVal x' = false := by
  cases x <;> simp only [plainV, Bool.false_eq_true] at h <;> simp only [VR] at hx <;> first
    | (subst hx; rfl)
    | (obtain ⟨_, _, rfl⟩ := hx; rfl)
    | (obtain ⟨_, rfl, _⟩ := hx; rfl)
    | (obtain ⟨_, _, _, rfl, _⟩ := hx; rfl)
    | (obtain ⟨_, _, rfl, _⟩ := hx; rfl)

theorem eqT_shape {n : Nat} {t : TypeId} {x y : V} {r : Bool} (h : eqT C n t x y = some r) :
    (∃ k a k' b, x = .int k a ∧ y = .int k' b) ∨ (∃ a b, x = .str a ∧ y = .str b) ∨ plainV x = true := by
  cases n with
  | zero => simp [eqT] at h
  | succ n =>
    simp only [eqT] at h
    split at h
    · cases h
    · split at h
      · exact .inr (.inr rfl)
      · cases h
    · unfold eqU at h
      split at h <;> first
        | exact .inl ⟨_, _, _, _, rfl, rfl⟩
        | exact .inr (.inl ⟨_, _, rfl, rfl⟩)
        | exact .inr (.inr rfl)
        | (cases h; done)

theorem binOp_eql (t : TypeId) {x y : Value} (h : numVal x = false) : binOp .eql t x y = (do pure (.bool (← Op.equal t x y))) := by
  cases x <;> first
    | (simp [numVal] at h; done)
    | rfl
theorem binOp_neq (t : TypeId) {x y : Value} (h : numVal x = false) : binOp .neq t x y = (do pure (.bool (!(← Op.equal t x y)))) := by
  cases x <;> first
    | (simp [numVal] at h; done)
    | rfl

theorem run_equalIn_nils {t : TypeId} {ms : Array (String × TypeId)} (hu : C.P.underlying t = some (.interface ms)) (d : Nat) (w : World) : (Op.equalIn (d + 1) t .nilIface .nilIface).run C.P w = .ok true w := by
  simp [Op.equalIn, run_underlying hu]

theorem ifaceEq_sound {t tx ty : TypeId} {ms : Array (String × TypeId)} {vx vy : V} {r : Bool} (hu : C.P.underlying t = some (.interface ms)) (h : ifaceEq C tx vx ty vy = some r) {x' y' : Value} (hx : VR g vx x') (hy : VR g vy y') (d : Nat) (w : World) :
    (Op.equalIn (d + 2) t (.iface tx x') (.iface ty y')).run C.P w = .ok r w := by
  unfold ifaceEq at h
  split at h
  · rename_i ht
    subst ht
    split at h
    · rename_i i k0 k a k' b hi hut
      split at h
      · rename_i hc
        obtain ⟨hc, rfl⟩ := hc
        cases h
        simp only [VR] at hx hy; subst hx; subst hy
        simp [Op.equalIn, run_underlying hu, run_underlying hut, typeInfo, hi, hc]
      · cases h
    · rename_i i a b hi hut
      split at h
      · rename_i hc
        cases h
        simp only [VR] at hx hy; subst hx; subst hy
        simp [Op.equalIn, run_underlying hu, run_underlying hut, typeInfo, hi, hc, beq_toListBytes, bytes_toList]
      · cases h
    · cases h
  · rename_i ht
    cases h
    simp [Op.equalIn, run_underlying hu, ht]

theorem binV_sound (hC : COk C) {nils : Bool} {op : BinOp} {t : TypeId} {x y v : V} (h : binV C nils op t x y = some v) {x' y' : Value} (hx : VR g x x') (hy : VR g y y') {ox oy : Operand}
    (hn : nils = (isNilWord ox || isNilWord oy)) (w : World) :
    ∃ v', ((do eqGuard op t ox oy x' y'; binOp op t x' y' : Sem Value)).run C.P w = .ok v' w ∧ VR g v v' := by
  unfold binV at h
  split at h
  · -- whole numbers
    rename_i k a k' b
    simp only [VR] at hx hy; subst hx; subst hy
    have hg : (eqGuard op t ox oy (.int k a) (.int k' b)).run C.P w = .ok () w := run_eqGuard op t ox oy _ _ (fun e => by cases e) (fun ⟨_, e⟩ => by cases e) w
    simp only [Sem.run_bind, hg, Result.andThen_ok]
    split at h
    · exact run_shiftBin h (.inl rfl) t w
    · exact run_shiftBin h (.inr rfl) t w
    · split at h
      · rename_i hk; subst hk; exact run_intBin h t w
      · cases h
  · -- texts
    rename_i a b
    simp only [VR] at hx hy; subst hx; subst hy
    have hg : (eqGuard op t ox oy (.string ⟨a.toArray⟩) (.string ⟨b.toArray⟩)).run C.P w = .ok () w := run_eqGuard op t ox oy _ _ (fun e => by cases e) (fun ⟨_, e⟩ => by cases e) w
    simp only [Sem.run_bind, hg, Result.andThen_ok]
    have : binOp op t (.string ⟨a.toArray⟩) (.string ⟨b.toArray⟩) = Op.stringOp op ⟨a.toArray⟩ ⟨b.toArray⟩ := by cases op <;> rfl
    rw [this]
    exact run_stringOp h w
  · -- nil and nil
    simp only [VR] at hx hy; subst hx; subst hy
    split at h
    · rename_i ms hu
      split at h
      · rename_i hns
        have hg : (eqGuard op t ox oy .nilIface .nilIface).run C.P w = .ok () w := run_eqGuard op t ox oy _ _ (fun _ _ => by rw [← hn]; exact hns) (fun ⟨_, e⟩ => by cases e) w
        simp only [Sem.run_bind, hg, Result.andThen_ok]
        split at h
        · cases h
          have he : (Op.equal t .nilIface .nilIface).run C.P w = .ok true w := run_equalIn_nils hu 9999 w
          exact ⟨.bool true, by rw [binOp_eql t rfl]; simp only [Sem.run_bind, he, Result.andThen_ok, Sem.run_pure], rfl⟩
        · cases h
          have he : (Op.equal t .nilIface .nilIface).run C.P w = .ok true w := run_equalIn_nils hu 9999 w
          exact ⟨.bool false, by rw [binOp_neq t rfl]; simp only [Sem.run_bind, he, Result.andThen_ok, Sem.run_pure]; rfl, rfl⟩
        · cases h
      · cases h
    · cases h
  · -- interfaces
    rename_i tx vx ty vy
    simp only [VR] at hx hy
    obtain ⟨x', rfl, hx⟩ := hx
    obtain ⟨y', rfl, hy⟩ := hy
    have hg : (eqGuard op t ox oy (.iface tx x') (.iface ty y')).run C.P w = .ok () w := run_eqGuard op t ox oy _ _ (fun e => by cases e) (fun ⟨_, e⟩ => by cases e) w
    simp only [Sem.run_bind, hg, Result.andThen_ok]
    split at h
    · rename_i ms hu
      split at h
      · rw [Option.map_eq_some_iff] at h
        obtain ⟨r, hr, rfl⟩ := h
        have he : (Op.equal t (.iface tx x') (.iface ty y')).run C.P w = .ok r w := ifaceEq_sound hu hr hx hy 9998 w
        exact ⟨.bool r, by rw [binOp_eql t rfl]; simp only [Sem.run_bind, he, Result.andThen_ok, Sem.run_pure], rfl⟩
      · rw [Option.map_eq_some_iff] at h
        obtain ⟨r, hr, rfl⟩ := h
        have he : (Op.equal t (.iface tx x') (.iface ty y')).run C.P w = .ok r w := ifaceEq_sound hu hr hx hy 9998 w
        exact ⟨.bool (!r), by rw [binOp_neq t rfl]; simp only [Sem.run_bind, he, Result.andThen_ok, Sem.run_pure], rfl⟩
      · cases h
    · cases h
  · rename_i h1 h2 h3 h4
    have key : ∀ r, eqT C 9 t x y = some r → ∀ w, (Op.equal t x' y').run C.P w = .ok r w := fun r hr w => eqT_sound hC 9 hr hx hy 10000 (by omega) w
    have bin : ∀ r, eqT C 9 t x y = some r → numVal x' = false := by
      intro r hr
      rcases eqT_shape hr with ⟨_, _, _, _, rfl, rfl⟩ | ⟨_, _, rfl, rfl⟩ | hp
      · exact absurd rfl (h1 _ _ _ _ rfl)
      · exact absurd rfl (h2 _ _ rfl)
      · exact plainV_num hp hx
    split at h
    · cases hr : eqT C 9 t x y with
      | none => rw [hr] at h; cases h
      | some r =>
        rw [hr] at h; cases h
        simp only [Sem.run_bind, run_eqGuard_eqT hC hr hx hy, Result.andThen_ok, binOp_eql t (bin r hr), key r hr, Sem.run_pure]
        exact ⟨_, rfl, rfl⟩
    · cases hr : eqT C 9 t x y with
      | none => rw [hr] at h; cases h
      | some r =>
        rw [hr] at h; cases h
        simp only [Sem.run_bind, run_eqGuard_eqT hC hr hx hy, Result.andThen_ok, binOp_neq t (bin r hr), key r hr, Sem.run_pure]
        exact ⟨_, rfl, rfl⟩
    · cases h
end
end Go.Vm
