/- The seat's types; expressions. -/
import Derived.Test.YtklcmgodhpediaaGreatDoorExV1
import Derived.Test.YtklcmgodhpediaaGreatDoorN25
set_option linter.unusedSimpArgs false
set_option linter.unusedVariables false
set_option maxRecDepth 100000
namespace Go.Proofs.YtklcmgodhpediaaGreatDoor
open Go Go.Vm Go.Proofs
theorem tyE0 : cx.P = Tryz.prog ∧ (Tryz.prog.underlying 3 = some (TypeDesc.int IntKind.i64) ∧ Tryz.prog.underlying 4 = some TypeDesc.bool ∧ Tryz.prog.underlying 9 = some TypeDesc.string ∧ Tryz.prog.underlying 22 = some (TypeDesc.int IntKind.u64) ∧ Tryz.prog.underlying 23 = some (TypeDesc.slice 25) ∧ Tryz.prog.underlying 28 = some (TypeDesc.int IntKind.u32) ∧ Tryz.prog.underlying 37 = some (TypeDesc.array 4 28) ∧ Tryz.prog.underlying 44 = some (TypeDesc.int IntKind.i64) ∧ Tryz.prog.underlying 73 = some (TypeDesc.slice 3) ∧ Tryz.prog.underlying 92 = some (TypeDesc.map 3 3) ∧ Tryz.prog.underlying 93 = some (TypeDesc.func #[100] #[4] false) ∧ Tryz.prog.underlying 94 = some (TypeDesc.func #[100] #[22] false) ∧ Tryz.prog.underlying 101 = some (TypeDesc.map 9 3))
  := ⟨rfl, Tryz.underlying3, Tryz.underlying4, Tryz.underlying9, Tryz.underlying22, Tryz.underlying23, Tryz.underlying28, Tryz.underlying37, Tryz.underlying44, Tryz.underlying73, Tryz.underlying92, Tryz.underlying93, Tryz.underlying94, Tryz.underlying101⟩
theorem tyS : (szOf cx 3 = some 1 ∧ szOf cx 4 = some 1 ∧ szOf cx 9 = some 1 ∧ szOf cx 22 = some 1 ∧ szOf cx 23 = some 1 ∧ szOf cx 25 = some 6 ∧ szOf cx 27 = some 5 ∧ szOf cx 28 = some 1 ∧ szOf cx 30 = some 5 ∧ szOf cx 32 = some 8 ∧ szOf cx 34 = some 14 ∧ szOf cx 36 = some 36 ∧ szOf cx 37 = some 4 ∧ szOf cx 41 = some 49 ∧ szOf cx 44 = some 1 ∧ szOf cx 73 = some 1 ∧ szOf cx 92 = some 1 ∧ szOf cx 93 = some 1 ∧ szOf cx 94 = some 1 ∧ szOf cx 97 = some 5 ∧ szOf cx 101 = some 1) := by refine ⟨?_, ?_, ?_, ?_, ?_, ?_, ?_, ?_, ?_, ?_, ?_, ?_, ?_, ?_, ?_, ?_, ?_, ?_, ?_, ?_, ?_⟩ <;> decide +kernel
theorem tyX : ((Tryz.prog.underlying 25 = some (TypeDesc.struct #[{ name := "Kind", type := 3, offset := 0, embedded := false, tag := "", pkgPath := "", byteOffset := 0 }, { name := "Field", type := 3, offset := 1, embedded := false, tag := "", pkgPath := "", byteOffset := 8 }, { name := "Op", type := 3, offset := 2, embedded := false, tag := "", pkgPath := "", byteOffset := 16 }, { name := "Value", type := 22, offset := 3, embedded := false, tag := "", pkgPath := "", byteOffset := 24 }, { name := "Mask", type := 22, offset := 4, embedded := false, tag := "", pkgPath := "", byteOffset := 32 }, { name := "Parts", type := 23, offset := 5, embedded := false, tag := "", pkgPath := "", byteOffset := 40 }])) ∧ (Tryz.prog.underlying 27 = some (TypeDesc.struct #[{ name := "Dst", type := 22, offset := 0, embedded := false, tag := "", pkgPath := "", byteOffset := 0 }, { name := "Src", type := 22, offset := 1, embedded := false, tag := "", pkgPath := "", byteOffset := 8 }, { name := "Tagged", type := 4, offset := 2, embedded := false, tag := "", pkgPath := "", byteOffset := 16 }, { name := "Tag", type := 3, offset := 3, embedded := false, tag := "", pkgPath := "", byteOffset := 24 }, { name := "Type", type := 3, offset := 4, embedded := false, tag := "", pkgPath := "", byteOffset := 32 }])) ∧ (Tryz.prog.underlying 30 = some (TypeDesc.struct #[{ name := "Op", type := 3, offset := 0, embedded := false, tag := "", pkgPath := "", byteOffset := 0 }, { name := "Sha", type := 22, offset := 1, embedded := false, tag := "", pkgPath := "", byteOffset := 8 }, { name := "Spa", type := 28, offset := 2, embedded := false, tag := "", pkgPath := "", byteOffset := 16 }, { name := "Tha", type := 22, offset := 3, embedded := false, tag := "", pkgPath := "", byteOffset := 24 }, { name := "Tpa", type := 28, offset := 4, embedded := false, tag := "", pkgPath := "", byteOffset := 32 }])) ∧ (Tryz.prog.underlying 32 = some (TypeDesc.struct #[{ name := "Tos", type := 3, offset := 0, embedded := false, tag := "", pkgPath := "", byteOffset := 0 }, { name := "Id", type := 3, offset := 1, embedded := false, tag := "", pkgPath := "", byteOffset := 8 }, { name := "Frag", type := 3, offset := 2, embedded := false, tag := "", pkgPath := "", byteOffset := 16 }, { name := "Ttl", type := 3, offset := 3, embedded := false, tag := "", pkgPath := "", byteOffset := 24 }, { name := "Proto", type := 3, offset := 4, embedded := false, tag := "", pkgPath := "", byteOffset := 32 }, { name := "Src", type := 28, offset := 5, embedded := false, tag := "", pkgPath := "", byteOffset := 40 }, { name := "Dst", type := 28, offset := 6, embedded := false, tag := "", pkgPath := "", byteOffset := 44 }, { name := "Options", type := 9, offset := 7, embedded := false, tag := "", pkgPath := "", byteOffset := 48 }])) ∧ (Tryz.prog.underlying 34 = some (TypeDesc.struct #[{ name := "Kind", type := 3, offset := 0, embedded := false, tag := "", pkgPath := "", byteOffset := 0 }, { name := "Type", type := 3, offset := 1, embedded := false, tag := "", pkgPath := "", byteOffset := 8 }, { name := "Code", type := 3, offset := 2, embedded := false, tag := "", pkgPath := "", byteOffset := 16 }, { name := "Rest", type := 28, offset := 3, embedded := false, tag := "", pkgPath := "", byteOffset := 24 }, { name := "Sport", type := 3, offset := 4, embedded := false, tag := "", pkgPath := "", byteOffset := 32 }, { name := "Dport", type := 3, offset := 5, embedded := false, tag := "", pkgPath := "", byteOffset := 40 }, { name := "NoSum", type := 4, offset := 6, embedded := false, tag := "", pkgPath := "", byteOffset := 48 }, { name := "Seq", type := 28, offset := 7, embedded := false, tag := "", pkgPath := "", byteOffset := 52 }, { name := "Ack", type := 28, offset := 8, embedded := false, tag := "", pkgPath := "", byteOffset := 56 }, { name := "Flags", type := 3, offset := 9, embedded := false, tag := "", pkgPath := "", byteOffset := 64 }, { name := "Window", type := 3, offset := 10, embedded := false, tag := "", pkgPath := "", byteOffset := 72 }, { name := "Urgent", type := 3, offset := 11, embedded := false, tag := "", pkgPath := "", byteOffset := 80 }, { name := "Options", type := 9, offset := 12, embedded := false, tag := "", pkgPath := "", byteOffset := 88 }, { name := "Data", type := 9, offset := 13, embedded := false, tag := "", pkgPath := "", byteOffset := 104 }])) ∧ (Tryz.prog.underlying 36 = some (TypeDesc.struct #[{ name := "Eth", type := 27, offset := 0, embedded := false, tag := "", pkgPath := "", byteOffset := 0 }, { name := "IsArp", type := 4, offset := 5, embedded := false, tag := "", pkgPath := "", byteOffset := 40 }, { name := "Arp", type := 30, offset := 6, embedded := false, tag := "", pkgPath := "", byteOffset := 48 }, { name := "IsIp", type := 4, offset := 11, embedded := false, tag := "", pkgPath := "", byteOffset := 88 }, { name := "Ip", type := 32, offset := 12, embedded := false, tag := "", pkgPath := "", byteOffset := 96 }, { name := "L4", type := 34, offset := 20, embedded := false, tag := "", pkgPath := "", byteOffset := 160 }, { name := "Body", type := 9, offset := 34, embedded := false, tag := "", pkgPath := "", byteOffset := 280 }, { name := "Pad", type := 9, offset := 35, embedded := false, tag := "", pkgPath := "", byteOffset := 296 }])) ∧ (Tryz.prog.underlying 41 = some (TypeDesc.struct #[{ name := "P", type := 36, offset := 0, embedded := false, tag := "", pkgPath := "", byteOffset := 0 }, { name := "Ct", type := 3, offset := 36, embedded := false, tag := "", pkgPath := "", byteOffset := 312 }, { name := "Dp", type := 3, offset := 37, embedded := false, tag := "", pkgPath := "", byteOffset := 320 }, { name := "In", type := 3, offset := 38, embedded := false, tag := "", pkgPath := "", byteOffset := 328 }, { name := "Out", type := 3, offset := 39, embedded := false, tag := "", pkgPath := "", byteOffset := 336 }, { name := "Regs", type := 37, offset := 40, embedded := false, tag := "", pkgPath := "", byteOffset := 344 }, { name := "Orig", type := 39, offset := 44, embedded := false, tag := "", pkgPath := "", byteOffset := 360 }])) ∧ (Tryz.prog.underlying 97 = some (TypeDesc.struct #[{ name := "name", type := 9, offset := 0, embedded := false, tag := "", pkgPath := "skein/field", byteOffset := 0 }, { name := "bits", type := 3, offset := 1, embedded := false, tag := "", pkgPath := "skein/field", byteOffset := 16 }, { name := "has", type := 93, offset := 2, embedded := false, tag := "", pkgPath := "skein/field", byteOffset := 24 }, { name := "get", type := 94, offset := 3, embedded := false, tag := "", pkgPath := "skein/field", byteOffset := 32 }, { name := "set", type := 95, offset := 4, embedded := false, tag := "", pkgPath := "skein/field", byteOffset := 40 }]))) := ⟨Tryz.underlying25, Tryz.underlying27, Tryz.underlying30, Tryz.underlying32, Tryz.underlying34, Tryz.underlying36, Tryz.underlying41, Tryz.underlying97⟩
theorem tyE : (cx.P = Tryz.prog ∧ (Tryz.prog.underlying 3 = some (TypeDesc.int IntKind.i64) ∧ Tryz.prog.underlying 4 = some TypeDesc.bool ∧ Tryz.prog.underlying 9 = some TypeDesc.string ∧ Tryz.prog.underlying 22 = some (TypeDesc.int IntKind.u64) ∧ Tryz.prog.underlying 23 = some (TypeDesc.slice 25) ∧ Tryz.prog.underlying 28 = some (TypeDesc.int IntKind.u32) ∧ Tryz.prog.underlying 37 = some (TypeDesc.array 4 28) ∧ Tryz.prog.underlying 44 = some (TypeDesc.int IntKind.i64) ∧ Tryz.prog.underlying 73 = some (TypeDesc.slice 3) ∧ Tryz.prog.underlying 92 = some (TypeDesc.map 3 3) ∧ Tryz.prog.underlying 93 = some (TypeDesc.func #[100] #[4] false) ∧ Tryz.prog.underlying 94 = some (TypeDesc.func #[100] #[22] false) ∧ Tryz.prog.underlying 101 = some (TypeDesc.map 9 3))) ∧ (szOf cx 3 = some 1 ∧ szOf cx 4 = some 1 ∧ szOf cx 9 = some 1 ∧ szOf cx 22 = some 1 ∧ szOf cx 23 = some 1 ∧ szOf cx 25 = some 6 ∧ szOf cx 27 = some 5 ∧ szOf cx 28 = some 1 ∧ szOf cx 30 = some 5 ∧ szOf cx 32 = some 8 ∧ szOf cx 34 = some 14 ∧ szOf cx 36 = some 36 ∧ szOf cx 37 = some 4 ∧ szOf cx 41 = some 49 ∧ szOf cx 44 = some 1 ∧ szOf cx 73 = some 1 ∧ szOf cx 92 = some 1 ∧ szOf cx 93 = some 1 ∧ szOf cx 94 = some 1 ∧ szOf cx 97 = some 5 ∧ szOf cx 101 = some 1) := And.intro tyE0 tyS

/-- What is known of the room behind a slice that came in: that there is none, or nothing. -/
def tipB (z : Bool) : Tip := if z then .full else .none
/-- Expressions: kind, field, operator, value, mask, whether the parts are nil, the parts. -/
inductive E where
  | mk (k f o v m : Int) (z : Bool) (ps : List E)
mutual
def E.c : E → V
  | .mk k f o v m z ps => .agg [.int .i64 k, .int .i64 f, .int .i64 o, .int .u64 v, .int .u64 m, .sl (tipB z) (E.cs ps)]
def E.cs : List E → List V
  | [] => []
  | e :: r => e.c :: E.cs r
end
theorem E.cs_map : ∀ ps : List E, E.cs ps = ps.map E.c
  | [] => rfl
  | e :: r => by rw [E.cs, List.map_cons, E.cs_map r]
theorem cs_len (ps : List E) : (E.cs ps).length = ps.length := by rw [E.cs_map, List.length_map]
theorem cs_get (ps : List E) (i : Nat) : (E.cs ps)[i]? = (ps[i]?).map E.c := by rw [E.cs_map, List.getElem?_map]
def E.parts : E → List E | .mk _ _ _ _ _ _ ps => ps
theorem E.lt {p e : E} (h : p ∈ e.parts) : SizeOf.sizeOf p < SizeOf.sizeOf e := by
  cases e with
  | mk k f o v m z ps =>
    have := List.sizeOf_lt_of_mem h
    simp only [E.mk.sizeOf_spec, E.parts] at *
    omega
/-- What is shown of all parts of an expression is so of the expression. -/
theorem E.ind {p : E → Prop} (h : ∀ k f o v m z ps, (∀ q ∈ ps, p q) → p (.mk k f o v m z ps)) : ∀ e, p e := by
  have : ∀ n, ∀ e : E, SizeOf.sizeOf e < n → p e := by
    intro n
    induction n with
    | zero => intro e he; omega
    | succ n ih =>
      intro e he
      cases e with
      | mk k f o v m z ps => exact h _ _ _ _ _ _ _ fun q hq => ih q (by have := E.lt (e := .mk k f o v m z ps) hq; omega)
  exact fun e => this _ e (Nat.lt_succ_self _)
theorem unown_c (e : E) : unown e.c = e.c := by
  cases e with
  | mk k f o v m z ps => cases z <;> rfl
theorem E.pure : ∀ e : E, pureV e.c = true := E.ind fun k f o v m z ps ih => by
  have : ∀ l : List E, (∀ q ∈ l, pureV q.c = true) → pureVs (E.cs l) = true := by
    intro l
    induction l with
    | nil => intro _; rfl
    | cons a l ihl => intro h; simp only [E.cs, pureVs, h a (List.mem_cons_self), ihl fun q hq => h q (List.mem_cons_of_mem _ hq), Bool.and_self]
  have hp := this ps ih
  cases z <;> simp only [E.c, tipB, pureV, pureVs, hp, Bool.and_self, if_true, Bool.false_eq_true, if_false]
/-- Numbers are in their types' ranges; there are not too many parts. -/
inductive E.Ok : E → Prop
  | mk {k f o v m : Int} {z : Bool} {ps : List E} (hk : -9223372036854775808 ≤ k ∧ k ≤ 9223372036854775807) (hf : -9223372036854775808 ≤ f ∧ f ≤ 9223372036854775807) (ho : -9223372036854775808 ≤ o ∧ o ≤ 9223372036854775807) (hv : 0 ≤ v ∧ v < 18446744073709551616) (hm : 0 ≤ m ∧ m < 18446744073709551616) (hl : ps.length * 64 ≤ 2 ^ 47) (hp : ∀ p ∈ ps, E.Ok p) : E.Ok (.mk k f o v m z ps)
/-- The heap's places. -/
theorem hpE : (∀ (H : List (Nat × Ob)) (b c : Nat) (x : Ob), hget (hset H b x) c = if c = b then (hget H b).map (fun _ => x) else hget H c) ∧ (∀ (H : List (Nat × Ob)) (i b : Nat) (o : Ob), i ≠ b → hget ((i, o) :: H) b = hget H b) ∧ (∀ (H : List (Nat × Ob)) (b : Nat) (o : Ob), hget ((b, o) :: H) b = some o) ∧ (∀ (H : List (Nat × Ob)) (i b : Nat) (o x : Ob), i ≠ b → hset ((i, o) :: H) b x = (i, o) :: hset H b x) ∧ (∀ (H : List (Nat × Ob)) (b : Nat) (o x : Ob), hset ((b, o) :: H) b x = (b, x) :: H) := by
  refine ⟨fun H b c x => hget_hset H b c x, fun H i b o h => ?_, fun H b o => ?_, fun H i b o x h => ?_, fun H b o x => ?_⟩
  · simp [hget, h]
  · simp [hget]
  · simp [hset, h]
  · simp [hset]
end Go.Proofs.YtklcmgodhpediaaGreatDoor
