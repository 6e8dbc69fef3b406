/- The fields of a State. -/
import Derived.Test.YtklcmgodhpediaaGreatDoorExS1
set_option linter.unusedSimpArgs false
set_option linter.unusedVariables false
set_option maxRecDepth 100000
namespace Go.Proofs.YtklcmgodhpediaaGreatDoor
open Go Go.Vm Go.Proofs

def stV (x : Nat → Int) (tg arp ip ns : Bool) (kk : Int) (u : Nat → List UInt8) : V := .agg [.int .u64 (x 0), .int .u64 (x 1), .bool tg, .int .i64 (x 3), .int .i64 (x 4), .bool arp, .int .i64 (x 6), .int .u64 (x 7), .int .u32 (x 8), .int .u64 (x 9), .int .u32 (x 10), .bool ip, .int .i64 (x 12), .int .i64 (x 13), .int .i64 (x 14), .int .i64 (x 15), .int .i64 (x 16), .int .u32 (x 17), .int .u32 (x 18), .str (u 0), .int .i64 kk, .int .i64 (x 21), .int .i64 (x 22), .int .u32 (x 23), .int .i64 (x 24), .int .i64 (x 25), .bool ns, .int .u32 (x 27), .int .u32 (x 28), .int .i64 (x 29), .int .i64 (x 30), .int .i64 (x 31), .str (u 1), .str (u 2), .str (u 3), .str (u 4), .int .i64 (x 36), .int .i64 (x 37), .int .i64 (x 38), .int .i64 (x 39), .int .u32 (x 40), .int .u32 (x 41), .int .u32 (x 42), .int .u32 (x 43), .int .i64 (x 44), .int .u32 (x 45), .int .u32 (x 46), .int .i64 (x 47), .int .i64 (x 48)]
def w64 (n : Int) : Int := IntKind.u64.wrap n
def and64 (a b : Int) : Int := IntKind.u64.wrap (BitVec.ofInt 64 a &&& BitVec.ofInt 64 b).toNat
def hasL (f : Int) (arp ip : Bool) (kk : Int) : Bool :=
  if f < 5 then true else if f ≤ 9 then arp else if f ≤ 15 then ip else if f ≤ 17 then ip && decide (kk = 1) else if f ≤ 19 then ip && (decide (kk = 2) || decide (kk = 3)) else if f ≤ 20 then ip && decide (kk = 3) else true
def rawL (f : Int) (x : Nat → Int) (tg : Bool) : Int :=
  match f.toNat with
  | 1 => x 0
  | 2 => x 1
  | 3 => w64 (x 4)
  | 4 => if tg then IntKind.u64.wrap (65536 + (w64 (x 3)).tmod 65536) else 0
  | 5 => w64 (x 6)
  | 6 => x 7
  | 7 => w64 (x 8)
  | 8 => x 9
  | 9 => w64 (x 10)
  | 10 => w64 (x 17)
  | 11 => w64 (x 18)
  | 12 => w64 (x 16)
  | 13 => w64 (x 15)
  | 14 => w64 (x 12)
  | 15 => w64 (x 14)
  | 16 => w64 (x 21)
  | 17 => w64 (x 22)
  | 18 => w64 (x 24)
  | 19 => w64 (x 25)
  | 20 => w64 (x 29)
  | 21 => w64 (x 36)
  | 22 => w64 (x 37)
  | 23 => w64 (x 38)
  | 24 => w64 (x 39)
  | 25 => w64 (x 40)
  | 26 => w64 (x 41)
  | 27 => w64 (x 42)
  | 28 => w64 (x 43)
  | _ => 0
def rawE (f : Int) (x : Nat → Int) (tg : Bool) : Int :=
  if f = 4 then (if tg then IntKind.u64.wrap (BitVec.ofInt 64 65536 ||| BitVec.ofInt 64 (w64 (IntKind.i64.wrap (BitVec.ofInt 64 (x 3) &&& BitVec.ofInt 64 65535).toNat))).toNat else 0) else rawL f x tg
def getT (f : Int) (r : Int) (h : Bool) : V := if h then .tup [.int .u64 (and64 r (allN f)), .int .i64 0] else .tup [.int .u64 0, .int .i64 81]
theorem kinds6 (kk : Int) : (∃ n, kk = Int.negSucc n) ∨ kk = 0 ∨ kk = 1 ∨ kk = 2 ∨ kk = 3 ∨ ∃ n : Nat, kk = Int.ofNat (n + 4) := by
  cases kk with
  | negSucc n => exact .inl ⟨n, rfl⟩
  | ofNat n =>
    match n with
    | 0 => exact .inr (.inl rfl)
    | 1 => exact .inr (.inr (.inl rfl))
    | 2 => exact .inr (.inr (.inr (.inl rfl)))
    | 3 => exact .inr (.inr (.inr (.inr (.inl rfl))))
    | n + 4 => exact .inr (.inr (.inr (.inr (.inr ⟨n, rfl⟩))))
theorem getE1 (x : Nat → Int) (tg arp ip ns : Bool) (kk : Int) (u : Nat → List UInt8) (st : St) : FnS cx 59 [stV x tg arp ip ns kk u, .int .i64 1] st (getT 1 (rawE 1 x tg) (hasL 1 arp ip kk)) st := by
  all_goals exact ⟨Fn.ofG (n := 100) (by kernel_rfl) ⟨rfl, rfl⟩⟩
theorem getE2 (x : Nat → Int) (tg arp ip ns : Bool) (kk : Int) (u : Nat → List UInt8) (st : St) : FnS cx 59 [stV x tg arp ip ns kk u, .int .i64 2] st (getT 2 (rawE 2 x tg) (hasL 2 arp ip kk)) st := by
  all_goals exact ⟨Fn.ofG (n := 100) (by kernel_rfl) ⟨rfl, rfl⟩⟩
theorem getE3 (x : Nat → Int) (tg arp ip ns : Bool) (kk : Int) (u : Nat → List UInt8) (st : St) : FnS cx 59 [stV x tg arp ip ns kk u, .int .i64 3] st (getT 3 (rawE 3 x tg) (hasL 3 arp ip kk)) st := by
  all_goals exact ⟨Fn.ofG (n := 100) (by kernel_rfl) ⟨rfl, rfl⟩⟩
theorem getE4 (x : Nat → Int) (tg arp ip ns : Bool) (kk : Int) (u : Nat → List UInt8) (st : St) : FnS cx 59 [stV x tg arp ip ns kk u, .int .i64 4] st (getT 4 (rawE 4 x tg) (hasL 4 arp ip kk)) st := by
  cases tg
  all_goals exact ⟨Fn.ofG (n := 100) (by kernel_rfl) ⟨rfl, rfl⟩⟩
theorem getE5 (x : Nat → Int) (tg arp ip ns : Bool) (kk : Int) (u : Nat → List UInt8) (st : St) : FnS cx 59 [stV x tg arp ip ns kk u, .int .i64 5] st (getT 5 (rawE 5 x tg) (hasL 5 arp ip kk)) st := by
  cases arp
  all_goals exact ⟨Fn.ofG (n := 100) (by kernel_rfl) ⟨rfl, rfl⟩⟩
theorem getE6 (x : Nat → Int) (tg arp ip ns : Bool) (kk : Int) (u : Nat → List UInt8) (st : St) : FnS cx 59 [stV x tg arp ip ns kk u, .int .i64 6] st (getT 6 (rawE 6 x tg) (hasL 6 arp ip kk)) st := by
  cases arp
  all_goals exact ⟨Fn.ofG (n := 100) (by kernel_rfl) ⟨rfl, rfl⟩⟩
theorem getE7 (x : Nat → Int) (tg arp ip ns : Bool) (kk : Int) (u : Nat → List UInt8) (st : St) : FnS cx 59 [stV x tg arp ip ns kk u, .int .i64 7] st (getT 7 (rawE 7 x tg) (hasL 7 arp ip kk)) st := by
  cases arp
  all_goals exact ⟨Fn.ofG (n := 100) (by kernel_rfl) ⟨rfl, rfl⟩⟩
theorem getE8 (x : Nat → Int) (tg arp ip ns : Bool) (kk : Int) (u : Nat → List UInt8) (st : St) : FnS cx 59 [stV x tg arp ip ns kk u, .int .i64 8] st (getT 8 (rawE 8 x tg) (hasL 8 arp ip kk)) st := by
  cases arp
  all_goals exact ⟨Fn.ofG (n := 100) (by kernel_rfl) ⟨rfl, rfl⟩⟩
theorem getE9 (x : Nat → Int) (tg arp ip ns : Bool) (kk : Int) (u : Nat → List UInt8) (st : St) : FnS cx 59 [stV x tg arp ip ns kk u, .int .i64 9] st (getT 9 (rawE 9 x tg) (hasL 9 arp ip kk)) st := by
  cases arp
  all_goals exact ⟨Fn.ofG (n := 100) (by kernel_rfl) ⟨rfl, rfl⟩⟩
theorem getE10 (x : Nat → Int) (tg arp ip ns : Bool) (kk : Int) (u : Nat → List UInt8) (st : St) : FnS cx 59 [stV x tg arp ip ns kk u, .int .i64 10] st (getT 10 (rawE 10 x tg) (hasL 10 arp ip kk)) st := by
  cases ip
  all_goals exact ⟨Fn.ofG (n := 100) (by kernel_rfl) ⟨rfl, rfl⟩⟩
theorem getE11 (x : Nat → Int) (tg arp ip ns : Bool) (kk : Int) (u : Nat → List UInt8) (st : St) : FnS cx 59 [stV x tg arp ip ns kk u, .int .i64 11] st (getT 11 (rawE 11 x tg) (hasL 11 arp ip kk)) st := by
  cases ip
  all_goals exact ⟨Fn.ofG (n := 100) (by kernel_rfl) ⟨rfl, rfl⟩⟩
theorem getE12 (x : Nat → Int) (tg arp ip ns : Bool) (kk : Int) (u : Nat → List UInt8) (st : St) : FnS cx 59 [stV x tg arp ip ns kk u, .int .i64 12] st (getT 12 (rawE 12 x tg) (hasL 12 arp ip kk)) st := by
  cases ip
  all_goals exact ⟨Fn.ofG (n := 100) (by kernel_rfl) ⟨rfl, rfl⟩⟩
theorem getE13 (x : Nat → Int) (tg arp ip ns : Bool) (kk : Int) (u : Nat → List UInt8) (st : St) : FnS cx 59 [stV x tg arp ip ns kk u, .int .i64 13] st (getT 13 (rawE 13 x tg) (hasL 13 arp ip kk)) st := by
  cases ip
  all_goals exact ⟨Fn.ofG (n := 100) (by kernel_rfl) ⟨rfl, rfl⟩⟩
theorem getE14 (x : Nat → Int) (tg arp ip ns : Bool) (kk : Int) (u : Nat → List UInt8) (st : St) : FnS cx 59 [stV x tg arp ip ns kk u, .int .i64 14] st (getT 14 (rawE 14 x tg) (hasL 14 arp ip kk)) st := by
  cases ip
  all_goals exact ⟨Fn.ofG (n := 100) (by kernel_rfl) ⟨rfl, rfl⟩⟩
theorem getE15 (x : Nat → Int) (tg arp ip ns : Bool) (kk : Int) (u : Nat → List UInt8) (st : St) : FnS cx 59 [stV x tg arp ip ns kk u, .int .i64 15] st (getT 15 (rawE 15 x tg) (hasL 15 arp ip kk)) st := by
  cases ip
  all_goals exact ⟨Fn.ofG (n := 100) (by kernel_rfl) ⟨rfl, rfl⟩⟩
theorem getE16 (x : Nat → Int) (tg arp ip ns : Bool) (kk : Int) (u : Nat → List UInt8) (st : St) : FnS cx 59 [stV x tg arp ip ns kk u, .int .i64 16] st (getT 16 (rawE 16 x tg) (hasL 16 arp ip kk)) st := by
  cases ip
  all_goals
    rcases kinds6 kk with ⟨n, rfl⟩ | rfl | rfl | rfl | rfl | ⟨n, rfl⟩
    all_goals exact ⟨Fn.ofG (n := 100) (by kernel_rfl) ⟨rfl, rfl⟩⟩
theorem getE17 (x : Nat → Int) (tg arp ip ns : Bool) (kk : Int) (u : Nat → List UInt8) (st : St) : FnS cx 59 [stV x tg arp ip ns kk u, .int .i64 17] st (getT 17 (rawE 17 x tg) (hasL 17 arp ip kk)) st := by
  cases ip
  all_goals
    rcases kinds6 kk with ⟨n, rfl⟩ | rfl | rfl | rfl | rfl | ⟨n, rfl⟩
    all_goals exact ⟨Fn.ofG (n := 100) (by kernel_rfl) ⟨rfl, rfl⟩⟩
theorem getE18 (x : Nat → Int) (tg arp ip ns : Bool) (kk : Int) (u : Nat → List UInt8) (st : St) : FnS cx 59 [stV x tg arp ip ns kk u, .int .i64 18] st (getT 18 (rawE 18 x tg) (hasL 18 arp ip kk)) st := by
  cases ip
  all_goals
    rcases kinds6 kk with ⟨n, rfl⟩ | rfl | rfl | rfl | rfl | ⟨n, rfl⟩
    all_goals exact ⟨Fn.ofG (n := 100) (by kernel_rfl) ⟨rfl, rfl⟩⟩
theorem getE19 (x : Nat → Int) (tg arp ip ns : Bool) (kk : Int) (u : Nat → List UInt8) (st : St) : FnS cx 59 [stV x tg arp ip ns kk u, .int .i64 19] st (getT 19 (rawE 19 x tg) (hasL 19 arp ip kk)) st := by
  cases ip
  all_goals
    rcases kinds6 kk with ⟨n, rfl⟩ | rfl | rfl | rfl | rfl | ⟨n, rfl⟩
    all_goals exact ⟨Fn.ofG (n := 100) (by kernel_rfl) ⟨rfl, rfl⟩⟩
theorem getE20 (x : Nat → Int) (tg arp ip ns : Bool) (kk : Int) (u : Nat → List UInt8) (st : St) : FnS cx 59 [stV x tg arp ip ns kk u, .int .i64 20] st (getT 20 (rawE 20 x tg) (hasL 20 arp ip kk)) st := by
  cases ip
  all_goals
    rcases kinds6 kk with ⟨n, rfl⟩ | rfl | rfl | rfl | rfl | ⟨n, rfl⟩
    all_goals exact ⟨Fn.ofG (n := 100) (by kernel_rfl) ⟨rfl, rfl⟩⟩
theorem getE21 (x : Nat → Int) (tg arp ip ns : Bool) (kk : Int) (u : Nat → List UInt8) (st : St) : FnS cx 59 [stV x tg arp ip ns kk u, .int .i64 21] st (getT 21 (rawE 21 x tg) (hasL 21 arp ip kk)) st := by
  all_goals exact ⟨Fn.ofG (n := 100) (by kernel_rfl) ⟨rfl, rfl⟩⟩
theorem getE22 (x : Nat → Int) (tg arp ip ns : Bool) (kk : Int) (u : Nat → List UInt8) (st : St) : FnS cx 59 [stV x tg arp ip ns kk u, .int .i64 22] st (getT 22 (rawE 22 x tg) (hasL 22 arp ip kk)) st := by
  all_goals exact ⟨Fn.ofG (n := 100) (by kernel_rfl) ⟨rfl, rfl⟩⟩
theorem getE23 (x : Nat → Int) (tg arp ip ns : Bool) (kk : Int) (u : Nat → List UInt8) (st : St) : FnS cx 59 [stV x tg arp ip ns kk u, .int .i64 23] st (getT 23 (rawE 23 x tg) (hasL 23 arp ip kk)) st := by
  all_goals exact ⟨Fn.ofG (n := 100) (by kernel_rfl) ⟨rfl, rfl⟩⟩
theorem getE24 (x : Nat → Int) (tg arp ip ns : Bool) (kk : Int) (u : Nat → List UInt8) (st : St) : FnS cx 59 [stV x tg arp ip ns kk u, .int .i64 24] st (getT 24 (rawE 24 x tg) (hasL 24 arp ip kk)) st := by
  all_goals exact ⟨Fn.ofG (n := 100) (by kernel_rfl) ⟨rfl, rfl⟩⟩
theorem getE25 (x : Nat → Int) (tg arp ip ns : Bool) (kk : Int) (u : Nat → List UInt8) (st : St) : FnS cx 59 [stV x tg arp ip ns kk u, .int .i64 25] st (getT 25 (rawE 25 x tg) (hasL 25 arp ip kk)) st := by
  all_goals exact ⟨Fn.ofG (n := 100) (by kernel_rfl) ⟨rfl, rfl⟩⟩
theorem getE26 (x : Nat → Int) (tg arp ip ns : Bool) (kk : Int) (u : Nat → List UInt8) (st : St) : FnS cx 59 [stV x tg arp ip ns kk u, .int .i64 26] st (getT 26 (rawE 26 x tg) (hasL 26 arp ip kk)) st := by
  all_goals exact ⟨Fn.ofG (n := 100) (by kernel_rfl) ⟨rfl, rfl⟩⟩
theorem getE27 (x : Nat → Int) (tg arp ip ns : Bool) (kk : Int) (u : Nat → List UInt8) (st : St) : FnS cx 59 [stV x tg arp ip ns kk u, .int .i64 27] st (getT 27 (rawE 27 x tg) (hasL 27 arp ip kk)) st := by
  all_goals exact ⟨Fn.ofG (n := 100) (by kernel_rfl) ⟨rfl, rfl⟩⟩
theorem getE28 (x : Nat → Int) (tg arp ip ns : Bool) (kk : Int) (u : Nat → List UInt8) (st : St) : FnS cx 59 [stV x tg arp ip ns kk u, .int .i64 28] st (getT 28 (rawE 28 x tg) (hasL 28 arp ip kk)) st := by
  all_goals exact ⟨Fn.ofG (n := 100) (by kernel_rfl) ⟨rfl, rfl⟩⟩
theorem getES (f : Int) (h1 : 1 ≤ f) (h2 : f ≤ 28) (x : Nat → Int) (tg arp ip ns : Bool) (kk : Int) (u : Nat → List UInt8) (st : St) : FnS cx 59 [stV x tg arp ip ns kk u, .int .i64 f] st (getT f (rawE f x tg) (hasL f arp ip kk)) st := by
  have h : f = 1 ∨ f = 2 ∨ f = 3 ∨ f = 4 ∨ f = 5 ∨ f = 6 ∨ f = 7 ∨ f = 8 ∨ f = 9 ∨ f = 10 ∨ f = 11 ∨ f = 12 ∨ f = 13 ∨ f = 14 ∨ f = 15 ∨ f = 16 ∨ f = 17 ∨ f = 18 ∨ f = 19 ∨ f = 20 ∨ f = 21 ∨ f = 22 ∨ f = 23 ∨ f = 24 ∨ f = 25 ∨ f = 26 ∨ f = 27 ∨ f = 28 := by omega
  rcases h with rfl | rfl | rfl | rfl | rfl | rfl | rfl | rfl | rfl | rfl | rfl | rfl | rfl | rfl | rfl | rfl | rfl | rfl | rfl | rfl | rfl | rfl | rfl | rfl | rfl | rfl | rfl | rfl
  · exact getE1 _ _ _ _ _ _ _ _
  · exact getE2 _ _ _ _ _ _ _ _
  · exact getE3 _ _ _ _ _ _ _ _
  · exact getE4 _ _ _ _ _ _ _ _
  · exact getE5 _ _ _ _ _ _ _ _
  · exact getE6 _ _ _ _ _ _ _ _
  · exact getE7 _ _ _ _ _ _ _ _
  · exact getE8 _ _ _ _ _ _ _ _
  · exact getE9 _ _ _ _ _ _ _ _
  · exact getE10 _ _ _ _ _ _ _ _
  · exact getE11 _ _ _ _ _ _ _ _
  · exact getE12 _ _ _ _ _ _ _ _
  · exact getE13 _ _ _ _ _ _ _ _
  · exact getE14 _ _ _ _ _ _ _ _
  · exact getE15 _ _ _ _ _ _ _ _
  · exact getE16 _ _ _ _ _ _ _ _
  · exact getE17 _ _ _ _ _ _ _ _
  · exact getE18 _ _ _ _ _ _ _ _
  · exact getE19 _ _ _ _ _ _ _ _
  · exact getE20 _ _ _ _ _ _ _ _
  · exact getE21 _ _ _ _ _ _ _ _
  · exact getE22 _ _ _ _ _ _ _ _
  · exact getE23 _ _ _ _ _ _ _ _
  · exact getE24 _ _ _ _ _ _ _ _
  · exact getE25 _ _ _ _ _ _ _ _
  · exact getE26 _ _ _ _ _ _ _ _
  · exact getE27 _ _ _ _ _ _ _ _
  · exact getE28 _ _ _ _ _ _ _ _
theorem getR1 (x : Nat → Int) (tg arp ip ns : Bool) (kk : Int) (u : Nat → List UInt8) (st : St) : FnS cx 61 [stV x tg arp ip ns kk u, .int .i64 1] st (getT 1 (rawL 1 x tg) (hasL 1 arp ip kk)) st := by
  cases ip
  all_goals exact ⟨Fn.ofG (n := 100) (by kernel_rfl) ⟨rfl, rfl⟩⟩
theorem getR2 (x : Nat → Int) (tg arp ip ns : Bool) (kk : Int) (u : Nat → List UInt8) (st : St) : FnS cx 61 [stV x tg arp ip ns kk u, .int .i64 2] st (getT 2 (rawL 2 x tg) (hasL 2 arp ip kk)) st := by
  cases ip
  all_goals exact ⟨Fn.ofG (n := 100) (by kernel_rfl) ⟨rfl, rfl⟩⟩
theorem getR3 (x : Nat → Int) (tg arp ip ns : Bool) (kk : Int) (u : Nat → List UInt8) (st : St) : FnS cx 61 [stV x tg arp ip ns kk u, .int .i64 3] st (getT 3 (rawL 3 x tg) (hasL 3 arp ip kk)) st := by
  cases ip
  all_goals exact ⟨Fn.ofG (n := 100) (by kernel_rfl) ⟨rfl, rfl⟩⟩
theorem getR4 (x : Nat → Int) (tg arp ip ns : Bool) (kk : Int) (u : Nat → List UInt8) (st : St) : FnS cx 61 [stV x tg arp ip ns kk u, .int .i64 4] st (getT 4 (rawL 4 x tg) (hasL 4 arp ip kk)) st := by
  cases tg <;> cases ip
  all_goals exact ⟨Fn.ofG (n := 100) (by kernel_rfl) ⟨rfl, rfl⟩⟩
theorem getR5 (x : Nat → Int) (tg arp ip ns : Bool) (kk : Int) (u : Nat → List UInt8) (st : St) : FnS cx 61 [stV x tg arp ip ns kk u, .int .i64 5] st (getT 5 (rawL 5 x tg) (hasL 5 arp ip kk)) st := by
  cases arp <;> cases ip
  all_goals exact ⟨Fn.ofG (n := 100) (by kernel_rfl) ⟨rfl, rfl⟩⟩
theorem getR6 (x : Nat → Int) (tg arp ip ns : Bool) (kk : Int) (u : Nat → List UInt8) (st : St) : FnS cx 61 [stV x tg arp ip ns kk u, .int .i64 6] st (getT 6 (rawL 6 x tg) (hasL 6 arp ip kk)) st := by
  cases arp <;> cases ip
  all_goals exact ⟨Fn.ofG (n := 100) (by kernel_rfl) ⟨rfl, rfl⟩⟩
theorem getR7 (x : Nat → Int) (tg arp ip ns : Bool) (kk : Int) (u : Nat → List UInt8) (st : St) : FnS cx 61 [stV x tg arp ip ns kk u, .int .i64 7] st (getT 7 (rawL 7 x tg) (hasL 7 arp ip kk)) st := by
  cases arp <;> cases ip
  all_goals exact ⟨Fn.ofG (n := 100) (by kernel_rfl) ⟨rfl, rfl⟩⟩
theorem getR8 (x : Nat → Int) (tg arp ip ns : Bool) (kk : Int) (u : Nat → List UInt8) (st : St) : FnS cx 61 [stV x tg arp ip ns kk u, .int .i64 8] st (getT 8 (rawL 8 x tg) (hasL 8 arp ip kk)) st := by
  cases arp <;> cases ip
  all_goals exact ⟨Fn.ofG (n := 100) (by kernel_rfl) ⟨rfl, rfl⟩⟩
theorem getR9 (x : Nat → Int) (tg arp ip ns : Bool) (kk : Int) (u : Nat → List UInt8) (st : St) : FnS cx 61 [stV x tg arp ip ns kk u, .int .i64 9] st (getT 9 (rawL 9 x tg) (hasL 9 arp ip kk)) st := by
  cases arp <;> cases ip
  all_goals exact ⟨Fn.ofG (n := 100) (by kernel_rfl) ⟨rfl, rfl⟩⟩
theorem getR10 (x : Nat → Int) (tg arp ip ns : Bool) (kk : Int) (u : Nat → List UInt8) (st : St) : FnS cx 61 [stV x tg arp ip ns kk u, .int .i64 10] st (getT 10 (rawL 10 x tg) (hasL 10 arp ip kk)) st := by
  cases ip
  all_goals exact ⟨Fn.ofG (n := 100) (by kernel_rfl) ⟨rfl, rfl⟩⟩
theorem getR11 (x : Nat → Int) (tg arp ip ns : Bool) (kk : Int) (u : Nat → List UInt8) (st : St) : FnS cx 61 [stV x tg arp ip ns kk u, .int .i64 11] st (getT 11 (rawL 11 x tg) (hasL 11 arp ip kk)) st := by
  cases ip
  all_goals exact ⟨Fn.ofG (n := 100) (by kernel_rfl) ⟨rfl, rfl⟩⟩
theorem getR12 (x : Nat → Int) (tg arp ip ns : Bool) (kk : Int) (u : Nat → List UInt8) (st : St) : FnS cx 61 [stV x tg arp ip ns kk u, .int .i64 12] st (getT 12 (rawL 12 x tg) (hasL 12 arp ip kk)) st := by
  cases ip
  all_goals exact ⟨Fn.ofG (n := 100) (by kernel_rfl) ⟨rfl, rfl⟩⟩
theorem getR13 (x : Nat → Int) (tg arp ip ns : Bool) (kk : Int) (u : Nat → List UInt8) (st : St) : FnS cx 61 [stV x tg arp ip ns kk u, .int .i64 13] st (getT 13 (rawL 13 x tg) (hasL 13 arp ip kk)) st := by
  cases ip
  all_goals exact ⟨Fn.ofG (n := 100) (by kernel_rfl) ⟨rfl, rfl⟩⟩
theorem getR14 (x : Nat → Int) (tg arp ip ns : Bool) (kk : Int) (u : Nat → List UInt8) (st : St) : FnS cx 61 [stV x tg arp ip ns kk u, .int .i64 14] st (getT 14 (rawL 14 x tg) (hasL 14 arp ip kk)) st := by
  cases ip
  all_goals exact ⟨Fn.ofG (n := 100) (by kernel_rfl) ⟨rfl, rfl⟩⟩
theorem getR15 (x : Nat → Int) (tg arp ip ns : Bool) (kk : Int) (u : Nat → List UInt8) (st : St) : FnS cx 61 [stV x tg arp ip ns kk u, .int .i64 15] st (getT 15 (rawL 15 x tg) (hasL 15 arp ip kk)) st := by
  cases ip
  all_goals exact ⟨Fn.ofG (n := 100) (by kernel_rfl) ⟨rfl, rfl⟩⟩
theorem getR16 (x : Nat → Int) (tg arp ip ns : Bool) (kk : Int) (u : Nat → List UInt8) (st : St) : FnS cx 61 [stV x tg arp ip ns kk u, .int .i64 16] st (getT 16 (rawL 16 x tg) (hasL 16 arp ip kk)) st := by
  cases ip
  all_goals
    rcases kinds6 kk with ⟨n, rfl⟩ | rfl | rfl | rfl | rfl | ⟨n, rfl⟩
    all_goals exact ⟨Fn.ofG (n := 100) (by kernel_rfl) ⟨rfl, rfl⟩⟩
theorem getR17 (x : Nat → Int) (tg arp ip ns : Bool) (kk : Int) (u : Nat → List UInt8) (st : St) : FnS cx 61 [stV x tg arp ip ns kk u, .int .i64 17] st (getT 17 (rawL 17 x tg) (hasL 17 arp ip kk)) st := by
  cases ip
  all_goals
    rcases kinds6 kk with ⟨n, rfl⟩ | rfl | rfl | rfl | rfl | ⟨n, rfl⟩
    all_goals exact ⟨Fn.ofG (n := 100) (by kernel_rfl) ⟨rfl, rfl⟩⟩
theorem getR18 (x : Nat → Int) (tg arp ip ns : Bool) (kk : Int) (u : Nat → List UInt8) (st : St) : FnS cx 61 [stV x tg arp ip ns kk u, .int .i64 18] st (getT 18 (rawL 18 x tg) (hasL 18 arp ip kk)) st := by
  cases ip
  all_goals
    rcases kinds6 kk with ⟨n, rfl⟩ | rfl | rfl | rfl | rfl | ⟨n, rfl⟩
    all_goals exact ⟨Fn.ofG (n := 100) (by kernel_rfl) ⟨rfl, rfl⟩⟩
theorem getR19 (x : Nat → Int) (tg arp ip ns : Bool) (kk : Int) (u : Nat → List UInt8) (st : St) : FnS cx 61 [stV x tg arp ip ns kk u, .int .i64 19] st (getT 19 (rawL 19 x tg) (hasL 19 arp ip kk)) st := by
  cases ip
  all_goals
    rcases kinds6 kk with ⟨n, rfl⟩ | rfl | rfl | rfl | rfl | ⟨n, rfl⟩
    all_goals exact ⟨Fn.ofG (n := 100) (by kernel_rfl) ⟨rfl, rfl⟩⟩
theorem getR20 (x : Nat → Int) (tg arp ip ns : Bool) (kk : Int) (u : Nat → List UInt8) (st : St) : FnS cx 61 [stV x tg arp ip ns kk u, .int .i64 20] st (getT 20 (rawL 20 x tg) (hasL 20 arp ip kk)) st := by
  cases ip
  all_goals
    rcases kinds6 kk with ⟨n, rfl⟩ | rfl | rfl | rfl | rfl | ⟨n, rfl⟩
    all_goals exact ⟨Fn.ofG (n := 100) (by kernel_rfl) ⟨rfl, rfl⟩⟩
theorem getR21 (x : Nat → Int) (tg arp ip ns : Bool) (kk : Int) (u : Nat → List UInt8) (st : St) : FnS cx 61 [stV x tg arp ip ns kk u, .int .i64 21] st (getT 21 (rawL 21 x tg) (hasL 21 arp ip kk)) st := by
  cases ip
  all_goals exact ⟨Fn.ofG (n := 100) (by kernel_rfl) ⟨rfl, rfl⟩⟩
theorem getR22 (x : Nat → Int) (tg arp ip ns : Bool) (kk : Int) (u : Nat → List UInt8) (st : St) : FnS cx 61 [stV x tg arp ip ns kk u, .int .i64 22] st (getT 22 (rawL 22 x tg) (hasL 22 arp ip kk)) st := by
  cases ip
  all_goals exact ⟨Fn.ofG (n := 100) (by kernel_rfl) ⟨rfl, rfl⟩⟩
theorem getR23 (x : Nat → Int) (tg arp ip ns : Bool) (kk : Int) (u : Nat → List UInt8) (st : St) : FnS cx 61 [stV x tg arp ip ns kk u, .int .i64 23] st (getT 23 (rawL 23 x tg) (hasL 23 arp ip kk)) st := by
  cases ip
  all_goals exact ⟨Fn.ofG (n := 100) (by kernel_rfl) ⟨rfl, rfl⟩⟩
theorem getR24 (x : Nat → Int) (tg arp ip ns : Bool) (kk : Int) (u : Nat → List UInt8) (st : St) : FnS cx 61 [stV x tg arp ip ns kk u, .int .i64 24] st (getT 24 (rawL 24 x tg) (hasL 24 arp ip kk)) st := by
  cases ip
  all_goals exact ⟨Fn.ofG (n := 100) (by kernel_rfl) ⟨rfl, rfl⟩⟩
theorem getR25 (x : Nat → Int) (tg arp ip ns : Bool) (kk : Int) (u : Nat → List UInt8) (st : St) : FnS cx 61 [stV x tg arp ip ns kk u, .int .i64 25] st (getT 25 (rawL 25 x tg) (hasL 25 arp ip kk)) st := by
  cases ip
  all_goals exact ⟨Fn.ofG (n := 100) (by kernel_rfl) ⟨rfl, rfl⟩⟩
theorem getR26 (x : Nat → Int) (tg arp ip ns : Bool) (kk : Int) (u : Nat → List UInt8) (st : St) : FnS cx 61 [stV x tg arp ip ns kk u, .int .i64 26] st (getT 26 (rawL 26 x tg) (hasL 26 arp ip kk)) st := by
  cases ip
  all_goals exact ⟨Fn.ofG (n := 100) (by kernel_rfl) ⟨rfl, rfl⟩⟩
theorem getR27 (x : Nat → Int) (tg arp ip ns : Bool) (kk : Int) (u : Nat → List UInt8) (st : St) : FnS cx 61 [stV x tg arp ip ns kk u, .int .i64 27] st (getT 27 (rawL 27 x tg) (hasL 27 arp ip kk)) st := by
  cases ip
  all_goals exact ⟨Fn.ofG (n := 100) (by kernel_rfl) ⟨rfl, rfl⟩⟩
theorem getR28 (x : Nat → Int) (tg arp ip ns : Bool) (kk : Int) (u : Nat → List UInt8) (st : St) : FnS cx 61 [stV x tg arp ip ns kk u, .int .i64 28] st (getT 28 (rawL 28 x tg) (hasL 28 arp ip kk)) st := by
  cases ip
  all_goals exact ⟨Fn.ofG (n := 100) (by kernel_rfl) ⟨rfl, rfl⟩⟩
theorem getRS (f : Int) (h1 : 1 ≤ f) (h2 : f ≤ 28) (x : Nat → Int) (tg arp ip ns : Bool) (kk : Int) (u : Nat → List UInt8) (st : St) : FnS cx 61 [stV x tg arp ip ns kk u, .int .i64 f] st (getT f (rawL f x tg) (hasL f arp ip kk)) st := by
  have h : f = 1 ∨ f = 2 ∨ f = 3 ∨ f = 4 ∨ f = 5 ∨ f = 6 ∨ f = 7 ∨ f = 8 ∨ f = 9 ∨ f = 10 ∨ f = 11 ∨ f = 12 ∨ f = 13 ∨ f = 14 ∨ f = 15 ∨ f = 16 ∨ f = 17 ∨ f = 18 ∨ f = 19 ∨ f = 20 ∨ f = 21 ∨ f = 22 ∨ f = 23 ∨ f = 24 ∨ f = 25 ∨ f = 26 ∨ f = 27 ∨ f = 28 := by omega
  rcases h with rfl | rfl | rfl | rfl | rfl | rfl | rfl | rfl | rfl | rfl | rfl | rfl | rfl | rfl | rfl | rfl | rfl | rfl | rfl | rfl | rfl | rfl | rfl | rfl | rfl | rfl | rfl | rfl
  · exact getR1 _ _ _ _ _ _ _ _
  · exact getR2 _ _ _ _ _ _ _ _
  · exact getR3 _ _ _ _ _ _ _ _
  · exact getR4 _ _ _ _ _ _ _ _
  · exact getR5 _ _ _ _ _ _ _ _
  · exact getR6 _ _ _ _ _ _ _ _
  · exact getR7 _ _ _ _ _ _ _ _
  · exact getR8 _ _ _ _ _ _ _ _
  · exact getR9 _ _ _ _ _ _ _ _
  · exact getR10 _ _ _ _ _ _ _ _
  · exact getR11 _ _ _ _ _ _ _ _
  · exact getR12 _ _ _ _ _ _ _ _
  · exact getR13 _ _ _ _ _ _ _ _
  · exact getR14 _ _ _ _ _ _ _ _
  · exact getR15 _ _ _ _ _ _ _ _
  · exact getR16 _ _ _ _ _ _ _ _
  · exact getR17 _ _ _ _ _ _ _ _
  · exact getR18 _ _ _ _ _ _ _ _
  · exact getR19 _ _ _ _ _ _ _ _
  · exact getR20 _ _ _ _ _ _ _ _
  · exact getR21 _ _ _ _ _ _ _ _
  · exact getR22 _ _ _ _ _ _ _ _
  · exact getR23 _ _ _ _ _ _ _ _
  · exact getR24 _ _ _ _ _ _ _ _
  · exact getR25 _ _ _ _ _ _ _ _
  · exact getR26 _ _ _ _ _ _ _ _
  · exact getR27 _ _ _ _ _ _ _ _
  · exact getR28 _ _ _ _ _ _ _ _
theorem hasE1 (x : Nat → Int) (tg arp ip ns : Bool) (kk : Int) (u : Nat → List UInt8) (st : St) : FnS cx 35 [stV x tg arp ip ns kk u, .int .i64 1] st (.bool (hasL 1 arp ip kk)) st := by
  all_goals exact ⟨Fn.ofG (n := 100) (by kernel_rfl) ⟨rfl, rfl⟩⟩
theorem hasE2 (x : Nat → Int) (tg arp ip ns : Bool) (kk : Int) (u : Nat → List UInt8) (st : St) : FnS cx 35 [stV x tg arp ip ns kk u, .int .i64 2] st (.bool (hasL 2 arp ip kk)) st := by
  all_goals exact ⟨Fn.ofG (n := 100) (by kernel_rfl) ⟨rfl, rfl⟩⟩
theorem hasE3 (x : Nat → Int) (tg arp ip ns : Bool) (kk : Int) (u : Nat → List UInt8) (st : St) : FnS cx 35 [stV x tg arp ip ns kk u, .int .i64 3] st (.bool (hasL 3 arp ip kk)) st := by
  all_goals exact ⟨Fn.ofG (n := 100) (by kernel_rfl) ⟨rfl, rfl⟩⟩
theorem hasE4 (x : Nat → Int) (tg arp ip ns : Bool) (kk : Int) (u : Nat → List UInt8) (st : St) : FnS cx 35 [stV x tg arp ip ns kk u, .int .i64 4] st (.bool (hasL 4 arp ip kk)) st := by
  all_goals exact ⟨Fn.ofG (n := 100) (by kernel_rfl) ⟨rfl, rfl⟩⟩
theorem hasE5 (x : Nat → Int) (tg arp ip ns : Bool) (kk : Int) (u : Nat → List UInt8) (st : St) : FnS cx 35 [stV x tg arp ip ns kk u, .int .i64 5] st (.bool (hasL 5 arp ip kk)) st := by
  cases arp
  all_goals exact ⟨Fn.ofG (n := 100) (by kernel_rfl) ⟨rfl, rfl⟩⟩
theorem hasE6 (x : Nat → Int) (tg arp ip ns : Bool) (kk : Int) (u : Nat → List UInt8) (st : St) : FnS cx 35 [stV x tg arp ip ns kk u, .int .i64 6] st (.bool (hasL 6 arp ip kk)) st := by
  cases arp
  all_goals exact ⟨Fn.ofG (n := 100) (by kernel_rfl) ⟨rfl, rfl⟩⟩
theorem hasE7 (x : Nat → Int) (tg arp ip ns : Bool) (kk : Int) (u : Nat → List UInt8) (st : St) : FnS cx 35 [stV x tg arp ip ns kk u, .int .i64 7] st (.bool (hasL 7 arp ip kk)) st := by
  cases arp
  all_goals exact ⟨Fn.ofG (n := 100) (by kernel_rfl) ⟨rfl, rfl⟩⟩
theorem hasE8 (x : Nat → Int) (tg arp ip ns : Bool) (kk : Int) (u : Nat → List UInt8) (st : St) : FnS cx 35 [stV x tg arp ip ns kk u, .int .i64 8] st (.bool (hasL 8 arp ip kk)) st := by
  cases arp
  all_goals exact ⟨Fn.ofG (n := 100) (by kernel_rfl) ⟨rfl, rfl⟩⟩
theorem hasE9 (x : Nat → Int) (tg arp ip ns : Bool) (kk : Int) (u : Nat → List UInt8) (st : St) : FnS cx 35 [stV x tg arp ip ns kk u, .int .i64 9] st (.bool (hasL 9 arp ip kk)) st := by
  cases arp
  all_goals exact ⟨Fn.ofG (n := 100) (by kernel_rfl) ⟨rfl, rfl⟩⟩
theorem hasE10 (x : Nat → Int) (tg arp ip ns : Bool) (kk : Int) (u : Nat → List UInt8) (st : St) : FnS cx 35 [stV x tg arp ip ns kk u, .int .i64 10] st (.bool (hasL 10 arp ip kk)) st := by
  cases ip
  all_goals exact ⟨Fn.ofG (n := 100) (by kernel_rfl) ⟨rfl, rfl⟩⟩
theorem hasE11 (x : Nat → Int) (tg arp ip ns : Bool) (kk : Int) (u : Nat → List UInt8) (st : St) : FnS cx 35 [stV x tg arp ip ns kk u, .int .i64 11] st (.bool (hasL 11 arp ip kk)) st := by
  cases ip
  all_goals exact ⟨Fn.ofG (n := 100) (by kernel_rfl) ⟨rfl, rfl⟩⟩
theorem hasE12 (x : Nat → Int) (tg arp ip ns : Bool) (kk : Int) (u : Nat → List UInt8) (st : St) : FnS cx 35 [stV x tg arp ip ns kk u, .int .i64 12] st (.bool (hasL 12 arp ip kk)) st := by
  cases ip
  all_goals exact ⟨Fn.ofG (n := 100) (by kernel_rfl) ⟨rfl, rfl⟩⟩
theorem hasE13 (x : Nat → Int) (tg arp ip ns : Bool) (kk : Int) (u : Nat → List UInt8) (st : St) : FnS cx 35 [stV x tg arp ip ns kk u, .int .i64 13] st (.bool (hasL 13 arp ip kk)) st := by
  cases ip
  all_goals exact ⟨Fn.ofG (n := 100) (by kernel_rfl) ⟨rfl, rfl⟩⟩
theorem hasE14 (x : Nat → Int) (tg arp ip ns : Bool) (kk : Int) (u : Nat → List UInt8) (st : St) : FnS cx 35 [stV x tg arp ip ns kk u, .int .i64 14] st (.bool (hasL 14 arp ip kk)) st := by
  cases ip
  all_goals exact ⟨Fn.ofG (n := 100) (by kernel_rfl) ⟨rfl, rfl⟩⟩
theorem hasE15 (x : Nat → Int) (tg arp ip ns : Bool) (kk : Int) (u : Nat → List UInt8) (st : St) : FnS cx 35 [stV x tg arp ip ns kk u, .int .i64 15] st (.bool (hasL 15 arp ip kk)) st := by
  cases ip
  all_goals exact ⟨Fn.ofG (n := 100) (by kernel_rfl) ⟨rfl, rfl⟩⟩
theorem hasE16 (x : Nat → Int) (tg arp ip ns : Bool) (kk : Int) (u : Nat → List UInt8) (st : St) : FnS cx 35 [stV x tg arp ip ns kk u, .int .i64 16] st (.bool (hasL 16 arp ip kk)) st := by
  cases ip
  all_goals
    rcases kinds6 kk with ⟨n, rfl⟩ | rfl | rfl | rfl | rfl | ⟨n, rfl⟩
    all_goals exact ⟨Fn.ofG (n := 100) (by kernel_rfl) ⟨rfl, rfl⟩⟩
theorem hasE17 (x : Nat → Int) (tg arp ip ns : Bool) (kk : Int) (u : Nat → List UInt8) (st : St) : FnS cx 35 [stV x tg arp ip ns kk u, .int .i64 17] st (.bool (hasL 17 arp ip kk)) st := by
  cases ip
  all_goals
    rcases kinds6 kk with ⟨n, rfl⟩ | rfl | rfl | rfl | rfl | ⟨n, rfl⟩
    all_goals exact ⟨Fn.ofG (n := 100) (by kernel_rfl) ⟨rfl, rfl⟩⟩
theorem hasE18 (x : Nat → Int) (tg arp ip ns : Bool) (kk : Int) (u : Nat → List UInt8) (st : St) : FnS cx 35 [stV x tg arp ip ns kk u, .int .i64 18] st (.bool (hasL 18 arp ip kk)) st := by
  cases ip
  all_goals
    rcases kinds6 kk with ⟨n, rfl⟩ | rfl | rfl | rfl | rfl | ⟨n, rfl⟩
    all_goals exact ⟨Fn.ofG (n := 100) (by kernel_rfl) ⟨rfl, rfl⟩⟩
theorem hasE19 (x : Nat → Int) (tg arp ip ns : Bool) (kk : Int) (u : Nat → List UInt8) (st : St) : FnS cx 35 [stV x tg arp ip ns kk u, .int .i64 19] st (.bool (hasL 19 arp ip kk)) st := by
  cases ip
  all_goals
    rcases kinds6 kk with ⟨n, rfl⟩ | rfl | rfl | rfl | rfl | ⟨n, rfl⟩
    all_goals exact ⟨Fn.ofG (n := 100) (by kernel_rfl) ⟨rfl, rfl⟩⟩
theorem hasE20 (x : Nat → Int) (tg arp ip ns : Bool) (kk : Int) (u : Nat → List UInt8) (st : St) : FnS cx 35 [stV x tg arp ip ns kk u, .int .i64 20] st (.bool (hasL 20 arp ip kk)) st := by
  cases ip
  all_goals
    rcases kinds6 kk with ⟨n, rfl⟩ | rfl | rfl | rfl | rfl | ⟨n, rfl⟩
    all_goals exact ⟨Fn.ofG (n := 100) (by kernel_rfl) ⟨rfl, rfl⟩⟩
theorem hasE21 (x : Nat → Int) (tg arp ip ns : Bool) (kk : Int) (u : Nat → List UInt8) (st : St) : FnS cx 35 [stV x tg arp ip ns kk u, .int .i64 21] st (.bool (hasL 21 arp ip kk)) st := by
  all_goals exact ⟨Fn.ofG (n := 100) (by kernel_rfl) ⟨rfl, rfl⟩⟩
theorem hasE22 (x : Nat → Int) (tg arp ip ns : Bool) (kk : Int) (u : Nat → List UInt8) (st : St) : FnS cx 35 [stV x tg arp ip ns kk u, .int .i64 22] st (.bool (hasL 22 arp ip kk)) st := by
  all_goals exact ⟨Fn.ofG (n := 100) (by kernel_rfl) ⟨rfl, rfl⟩⟩
theorem hasE23 (x : Nat → Int) (tg arp ip ns : Bool) (kk : Int) (u : Nat → List UInt8) (st : St) : FnS cx 35 [stV x tg arp ip ns kk u, .int .i64 23] st (.bool (hasL 23 arp ip kk)) st := by
  all_goals exact ⟨Fn.ofG (n := 100) (by kernel_rfl) ⟨rfl, rfl⟩⟩
theorem hasE24 (x : Nat → Int) (tg arp ip ns : Bool) (kk : Int) (u : Nat → List UInt8) (st : St) : FnS cx 35 [stV x tg arp ip ns kk u, .int .i64 24] st (.bool (hasL 24 arp ip kk)) st := by
  all_goals exact ⟨Fn.ofG (n := 100) (by kernel_rfl) ⟨rfl, rfl⟩⟩
theorem hasE25 (x : Nat → Int) (tg arp ip ns : Bool) (kk : Int) (u : Nat → List UInt8) (st : St) : FnS cx 35 [stV x tg arp ip ns kk u, .int .i64 25] st (.bool (hasL 25 arp ip kk)) st := by
  all_goals exact ⟨Fn.ofG (n := 100) (by kernel_rfl) ⟨rfl, rfl⟩⟩
theorem hasE26 (x : Nat → Int) (tg arp ip ns : Bool) (kk : Int) (u : Nat → List UInt8) (st : St) : FnS cx 35 [stV x tg arp ip ns kk u, .int .i64 26] st (.bool (hasL 26 arp ip kk)) st := by
  all_goals exact ⟨Fn.ofG (n := 100) (by kernel_rfl) ⟨rfl, rfl⟩⟩
theorem hasE27 (x : Nat → Int) (tg arp ip ns : Bool) (kk : Int) (u : Nat → List UInt8) (st : St) : FnS cx 35 [stV x tg arp ip ns kk u, .int .i64 27] st (.bool (hasL 27 arp ip kk)) st := by
  all_goals exact ⟨Fn.ofG (n := 100) (by kernel_rfl) ⟨rfl, rfl⟩⟩
theorem hasE28 (x : Nat → Int) (tg arp ip ns : Bool) (kk : Int) (u : Nat → List UInt8) (st : St) : FnS cx 35 [stV x tg arp ip ns kk u, .int .i64 28] st (.bool (hasL 28 arp ip kk)) st := by
  all_goals exact ⟨Fn.ofG (n := 100) (by kernel_rfl) ⟨rfl, rfl⟩⟩
theorem hasES (f : Int) (h1 : 1 ≤ f) (h2 : f ≤ 28) (x : Nat → Int) (tg arp ip ns : Bool) (kk : Int) (u : Nat → List UInt8) (st : St) : FnS cx 35 [stV x tg arp ip ns kk u, .int .i64 f] st (.bool (hasL f arp ip kk)) st := by
  have h : f = 1 ∨ f = 2 ∨ f = 3 ∨ f = 4 ∨ f = 5 ∨ f = 6 ∨ f = 7 ∨ f = 8 ∨ f = 9 ∨ f = 10 ∨ f = 11 ∨ f = 12 ∨ f = 13 ∨ f = 14 ∨ f = 15 ∨ f = 16 ∨ f = 17 ∨ f = 18 ∨ f = 19 ∨ f = 20 ∨ f = 21 ∨ f = 22 ∨ f = 23 ∨ f = 24 ∨ f = 25 ∨ f = 26 ∨ f = 27 ∨ f = 28 := by omega
  rcases h with rfl | rfl | rfl | rfl | rfl | rfl | rfl | rfl | rfl | rfl | rfl | rfl | rfl | rfl | rfl | rfl | rfl | rfl | rfl | rfl | rfl | rfl | rfl | rfl | rfl | rfl | rfl | rfl
  · exact hasE1 _ _ _ _ _ _ _ _
  · exact hasE2 _ _ _ _ _ _ _ _
  · exact hasE3 _ _ _ _ _ _ _ _
  · exact hasE4 _ _ _ _ _ _ _ _
  · exact hasE5 _ _ _ _ _ _ _ _
  · exact hasE6 _ _ _ _ _ _ _ _
  · exact hasE7 _ _ _ _ _ _ _ _
  · exact hasE8 _ _ _ _ _ _ _ _
  · exact hasE9 _ _ _ _ _ _ _ _
  · exact hasE10 _ _ _ _ _ _ _ _
  · exact hasE11 _ _ _ _ _ _ _ _
  · exact hasE12 _ _ _ _ _ _ _ _
  · exact hasE13 _ _ _ _ _ _ _ _
  · exact hasE14 _ _ _ _ _ _ _ _
  · exact hasE15 _ _ _ _ _ _ _ _
  · exact hasE16 _ _ _ _ _ _ _ _
  · exact hasE17 _ _ _ _ _ _ _ _
  · exact hasE18 _ _ _ _ _ _ _ _
  · exact hasE19 _ _ _ _ _ _ _ _
  · exact hasE20 _ _ _ _ _ _ _ _
  · exact hasE21 _ _ _ _ _ _ _ _
  · exact hasE22 _ _ _ _ _ _ _ _
  · exact hasE23 _ _ _ _ _ _ _ _
  · exact hasE24 _ _ _ _ _ _ _ _
  · exact hasE25 _ _ _ _ _ _ _ _
  · exact hasE26 _ _ _ _ _ _ _ _
  · exact hasE27 _ _ _ _ _ _ _ _
  · exact hasE28 _ _ _ _ _ _ _ _
end Go.Proofs.YtklcmgodhpediaaGreatDoor
