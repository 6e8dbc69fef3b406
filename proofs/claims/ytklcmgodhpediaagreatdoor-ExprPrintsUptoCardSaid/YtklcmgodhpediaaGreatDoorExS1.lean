/- The seat's types; expressions. -/
import Derived.Test.YtklcmgodhpediaaGreatDoorExV1
import Derived.Test.YtklcmgodhpediaaGreatDoorN22
import Derived.Test.YtklcmgodhpediaaGreatDoorN26
set_option linter.unusedSimpArgs false
set_option linter.unusedVariables false
set_option maxRecDepth 100000
namespace Go.Proofs.YtklcmgodhpediaaGreatDoor
open Go Go.Vm Go.Proofs
theorem tyE0 : cx.P = Tryz.prog ∧ (Tryz.prog.underlying 3 = some (TypeDesc.int IntKind.i64) ∧ Tryz.prog.underlying 4 = some TypeDesc.bool ∧ Tryz.prog.underlying 9 = some TypeDesc.string ∧ Tryz.prog.underlying 22 = some (TypeDesc.int IntKind.u64) ∧ Tryz.prog.underlying 23 = some (TypeDesc.slice 25) ∧ Tryz.prog.underlying 28 = some (TypeDesc.int IntKind.u32) ∧ Tryz.prog.underlying 37 = some (TypeDesc.array 4 28) ∧ Tryz.prog.underlying 44 = some (TypeDesc.int IntKind.i64) ∧ Tryz.prog.underlying 73 = some (TypeDesc.slice 3) ∧ Tryz.prog.underlying 92 = some (TypeDesc.map 3 3) ∧ Tryz.prog.underlying 93 = some (TypeDesc.func #[100] #[4] false) ∧ Tryz.prog.underlying 94 = some (TypeDesc.func #[100] #[22] false) ∧ Tryz.prog.underlying 101 = some (TypeDesc.map 9 3))
  := ⟨rfl, Tryz.underlying3, Tryz.underlying4, Tryz.underlying9, Tryz.underlying22, Tryz.underlying23, Tryz.underlying28, Tryz.underlying37, Tryz.underlying44, Tryz.underlying73, Tryz.underlying92, Tryz.underlying93, Tryz.underlying94, Tryz.underlying101⟩
theorem tyS : (szOf cx 3 = some 1 ∧ szOf cx 4 = some 1 ∧ szOf cx 9 = some 1 ∧ szOf cx 22 = some 1 ∧ szOf cx 23 = some 1 ∧ szOf cx 25 = some 6 ∧ szOf cx 27 = some 5 ∧ szOf cx 28 = some 1 ∧ szOf cx 30 = some 5 ∧ szOf cx 32 = some 8 ∧ szOf cx 34 = some 14 ∧ szOf cx 36 = some 36 ∧ szOf cx 37 = some 4 ∧ szOf cx 41 = some 49 ∧ szOf cx 44 = some 1 ∧ szOf cx 73 = some 1 ∧ szOf cx 92 = some 1 ∧ szOf cx 93 = some 1 ∧ szOf cx 94 = some 1 ∧ szOf cx 97 = some 5 ∧ szOf cx 101 = some 1) := by refine ⟨?_, ?_, ?_, ?_, ?_, ?_, ?_, ?_, ?_, ?_, ?_, ?_, ?_, ?_, ?_, ?_, ?_, ?_, ?_, ?_, ?_⟩ <;> decide +kernel
theorem tyX : ((Tryz.prog.underlying 25 = some (TypeDesc.struct #[{ name := "Kind", type := 3, offset := 0, embedded := false, tag := "", pkgPath := "", byteOffset := 0 }, { name := "Field", type := 3, offset := 1, embedded := false, tag := "", pkgPath := "", byteOffset := 8 }, { name := "Op", type := 3, offset := 2, embedded := false, tag := "", pkgPath := "", byteOffset := 16 }, { name := "Value", type := 22, offset := 3, embedded := false, tag := "", pkgPath := "", byteOffset := 24 }, { name := "Mask", type := 22, offset := 4, embedded := false, tag := "", pkgPath := "", byteOffset := 32 }, { name := "Parts", type := 23, offset := 5, embedded := false, tag := "", pkgPath := "", byteOffset := 40 }])) ∧ (Tryz.prog.underlying 27 = some (TypeDesc.struct #[{ name := "Dst", type := 22, offset := 0, embedded := false, tag := "", pkgPath := "", byteOffset := 0 }, { name := "Src", type := 22, offset := 1, embedded := false, tag := "", pkgPath := "", byteOffset := 8 }, { name := "Tagged", type := 4, offset := 2, embedded := false, tag := "", pkgPath := "", byteOffset := 16 }, { name := "Tag", type := 3, offset := 3, embedded := false, tag := "", pkgPath := "", byteOffset := 24 }, { name := "Type", type := 3, offset := 4, embedded := false, tag := "", pkgPath := "", byteOffset := 32 }])) ∧ (Tryz.prog.underlying 30 = some (TypeDesc.struct #[{ name := "Op", type := 3, offset := 0, embedded := false, tag := "", pkgPath := "", byteOffset := 0 }, { name := "Sha", type := 22, offset := 1, embedded := false, tag := "", pkgPath := "", byteOffset := 8 }, { name := "Spa", type := 28, offset := 2, embedded := false, tag := "", pkgPath := "", byteOffset := 16 }, { name := "Tha", type := 22, offset := 3, embedded := false, tag := "", pkgPath := "", byteOffset := 24 }, { name := "Tpa", type := 28, offset := 4, embedded := false, tag := "", pkgPath := "", byteOffset := 32 }])) ∧ (Tryz.prog.underlying 32 = some (TypeDesc.struct #[{ name := "Tos", type := 3, offset := 0, embedded := false, tag := "", pkgPath := "", byteOffset := 0 }, { name := "Id", type := 3, offset := 1, embedded := false, tag := "", pkgPath := "", byteOffset := 8 }, { name := "Frag", type := 3, offset := 2, embedded := false, tag := "", pkgPath := "", byteOffset := 16 }, { name := "Ttl", type := 3, offset := 3, embedded := false, tag := "", pkgPath := "", byteOffset := 24 }, { name := "Proto", type := 3, offset := 4, embedded := false, tag := "", pkgPath := "", byteOffset := 32 }, { name := "Src", type := 28, offset := 5, embedded := false, tag := "", pkgPath := "", byteOffset := 40 }, { name := "Dst", type := 28, offset := 6, embedded := false, tag := "", pkgPath := "", byteOffset := 44 }, { name := "Options", type := 9, offset := 7, embedded := false, tag := "", pkgPath := "", byteOffset := 48 }])) ∧ (Tryz.prog.underlying 34 = some (TypeDesc.struct #[{ name := "Kind", type := 3, offset := 0, embedded := false, tag := "", pkgPath := "", byteOffset := 0 }, { name := "Type", type := 3, offset := 1, embedded := false, tag := "", pkgPath := "", byteOffset := 8 }, { name := "Code", type := 3, offset := 2, embedded := false, tag := "", pkgPath := "", byteOffset := 16 }, { name := "Rest", type := 28, offset := 3, embedded := false, tag := "", pkgPath := "", byteOffset := 24 }, { name := "Sport", type := 3, offset := 4, embedded := false, tag := "", pkgPath := "", byteOffset := 32 }, { name := "Dport", type := 3, offset := 5, embedded := false, tag := "", pkgPath := "", byteOffset := 40 }, { name := "NoSum", type := 4, offset := 6, embedded := false, tag := "", pkgPath := "", byteOffset := 48 }, { name := "Seq", type := 28, offset := 7, embedded := false, tag := "", pkgPath := "", byteOffset := 52 }, { name := "Ack", type := 28, offset := 8, embedded := false, tag := "", pkgPath := "", byteOffset := 56 }, { name := "Flags", type := 3, offset := 9, embedded := false, tag := "", pkgPath := "", byteOffset := 64 }, { name := "Window", type := 3, offset := 10, embedded := false, tag := "", pkgPath := "", byteOffset := 72 }, { name := "Urgent", type := 3, offset := 11, embedded := false, tag := "", pkgPath := "", byteOffset := 80 }, { name := "Options", type := 9, offset := 12, embedded := false, tag := "", pkgPath := "", byteOffset := 88 }, { name := "Data", type := 9, offset := 13, embedded := false, tag := "", pkgPath := "", byteOffset := 104 }])) ∧ (Tryz.prog.underlying 36 = some (TypeDesc.struct #[{ name := "Eth", type := 27, offset := 0, embedded := false, tag := "", pkgPath := "", byteOffset := 0 }, { name := "IsArp", type := 4, offset := 5, embedded := false, tag := "", pkgPath := "", byteOffset := 40 }, { name := "Arp", type := 30, offset := 6, embedded := false, tag := "", pkgPath := "", byteOffset := 48 }, { name := "IsIp", type := 4, offset := 11, embedded := false, tag := "", pkgPath := "", byteOffset := 88 }, { name := "Ip", type := 32, offset := 12, embedded := false, tag := "", pkgPath := "", byteOffset := 96 }, { name := "L4", type := 34, offset := 20, embedded := false, tag := "", pkgPath := "", byteOffset := 160 }, { name := "Body", type := 9, offset := 34, embedded := false, tag := "", pkgPath := "", byteOffset := 280 }, { name := "Pad", type := 9, offset := 35, embedded := false, tag := "", pkgPath := "", byteOffset := 296 }])) ∧ (Tryz.prog.underlying 41 = some (TypeDesc.struct #[{ name := "P", type := 36, offset := 0, embedded := false, tag := "", pkgPath := "", byteOffset := 0 }, { name := "Ct", type := 3, offset := 36, embedded := false, tag := "", pkgPath := "", byteOffset := 312 }, { name := "Dp", type := 3, offset := 37, embedded := false, tag := "", pkgPath := "", byteOffset := 320 }, { name := "In", type := 3, offset := 38, embedded := false, tag := "", pkgPath := "", byteOffset := 328 }, { name := "Out", type := 3, offset := 39, embedded := false, tag := "", pkgPath := "", byteOffset := 336 }, { name := "Regs", type := 37, offset := 40, embedded := false, tag := "", pkgPath := "", byteOffset := 344 }, { name := "Orig", type := 39, offset := 44, embedded := false, tag := "", pkgPath := "", byteOffset := 360 }])) ∧ (Tryz.prog.underlying 97 = some (TypeDesc.struct #[{ name := "name", type := 9, offset := 0, embedded := false, tag := "", pkgPath := "skein/field", byteOffset := 0 }, { name := "bits", type := 3, offset := 1, embedded := false, tag := "", pkgPath := "skein/field", byteOffset := 16 }, { name := "has", type := 93, offset := 2, embedded := false, tag := "", pkgPath := "skein/field", byteOffset := 24 }, { name := "get", type := 94, offset := 3, embedded := false, tag := "", pkgPath := "skein/field", byteOffset := 32 }, { name := "set", type := 95, offset := 4, embedded := false, tag := "", pkgPath := "skein/field", byteOffset := 40 }]))) := ⟨Tryz.underlying25, Tryz.underlying27, Tryz.underlying30, Tryz.underlying32, Tryz.underlying34, Tryz.underlying36, Tryz.underlying41, Tryz.underlying97⟩
theorem tyE : (cx.P = Tryz.prog ∧ (Tryz.prog.underlying 3 = some (TypeDesc.int IntKind.i64) ∧ Tryz.prog.underlying 4 = some TypeDesc.bool ∧ Tryz.prog.underlying 9 = some TypeDesc.string ∧ Tryz.prog.underlying 22 = some (TypeDesc.int IntKind.u64) ∧ Tryz.prog.underlying 23 = some (TypeDesc.slice 25) ∧ Tryz.prog.underlying 28 = some (TypeDesc.int IntKind.u32) ∧ Tryz.prog.underlying 37 = some (TypeDesc.array 4 28) ∧ Tryz.prog.underlying 44 = some (TypeDesc.int IntKind.i64) ∧ Tryz.prog.underlying 73 = some (TypeDesc.slice 3) ∧ Tryz.prog.underlying 92 = some (TypeDesc.map 3 3) ∧ Tryz.prog.underlying 93 = some (TypeDesc.func #[100] #[4] false) ∧ Tryz.prog.underlying 94 = some (TypeDesc.func #[100] #[22] false) ∧ Tryz.prog.underlying 101 = some (TypeDesc.map 9 3))) ∧ (szOf cx 3 = some 1 ∧ szOf cx 4 = some 1 ∧ szOf cx 9 = some 1 ∧ szOf cx 22 = some 1 ∧ szOf cx 23 = some 1 ∧ szOf cx 25 = some 6 ∧ szOf cx 27 = some 5 ∧ szOf cx 28 = some 1 ∧ szOf cx 30 = some 5 ∧ szOf cx 32 = some 8 ∧ szOf cx 34 = some 14 ∧ szOf cx 36 = some 36 ∧ szOf cx 37 = some 4 ∧ szOf cx 41 = some 49 ∧ szOf cx 44 = some 1 ∧ szOf cx 73 = some 1 ∧ szOf cx 92 = some 1 ∧ szOf cx 93 = some 1 ∧ szOf cx 94 = some 1 ∧ szOf cx 97 = some 5 ∧ szOf cx 101 = some 1) := And.intro tyE0 tyS

def tipB (z : Bool) : Tip := if z then .full else .none
inductive E where
  | mk (k f o v m : Int) (z : Bool) (ps : List E)
mutual
def E.c : E → V
  | .mk k f o v m z ps => .agg [.int .i64 k, .int .i64 f, .int .i64 o, .int .u64 v, .int .u64 m, .sl (tipB z) (E.cs ps)]
def E.cs : List E → List V
  | [] => []
  | e :: r => e.c :: E.cs r
end
theorem E.cs_map : ∀ ps : List E, E.cs ps = ps.map E.c
  | [] => rfl
  | e :: r => by rw [E.cs, List.map_cons, E.cs_map r]
theorem cs_len (ps : List E) : (E.cs ps).length = ps.length := by rw [E.cs_map, List.length_map]
theorem cs_get (ps : List E) (i : Nat) : (E.cs ps)[i]? = (ps[i]?).map E.c := by rw [E.cs_map, List.getElem?_map]
def E.parts : E → List E | .mk _ _ _ _ _ _ ps => ps
theorem E.lt {p e : E} (h : p ∈ e.parts) : SizeOf.sizeOf p < SizeOf.sizeOf e := by
  cases e with
  | mk k f o v m z ps =>
    have := List.sizeOf_lt_of_mem h
    simp only [E.mk.sizeOf_spec, E.parts] at *
    omega
theorem E.ind {p : E → Prop} (h : ∀ k f o v m z ps, (∀ q ∈ ps, p q) → p (.mk k f o v m z ps)) : ∀ e, p e := by
  have : ∀ n, ∀ e : E, SizeOf.sizeOf e < n → p e := by
    intro n
    induction n with
    | zero => intro e he; omega
    | succ n ih =>
      intro e he
      cases e with
      | mk k f o v m z ps => exact h _ _ _ _ _ _ _ fun q hq => ih q (by have := E.lt (e := .mk k f o v m z ps) hq; omega)
  exact fun e => this _ e (Nat.lt_succ_self _)
theorem unown_c (e : E) : unown e.c = e.c := by
  cases e with
  | mk k f o v m z ps => cases z <;> rfl
theorem E.pure : ∀ e : E, pureV e.c = true := E.ind fun k f o v m z ps ih => by
  have : ∀ l : List E, (∀ q ∈ l, pureV q.c = true) → pureVs (E.cs l) = true := by
    intro l
    induction l with
    | nil => intro _; rfl
    | cons a l ihl => intro h; simp only [E.cs, pureVs, h a (List.mem_cons_self), ihl fun q hq => h q (List.mem_cons_of_mem _ hq), Bool.and_self]
  have hp := this ps ih
  cases z <;> simp only [E.c, tipB, pureV, pureVs, hp, Bool.and_self, if_true, Bool.false_eq_true, if_false]
inductive E.Ok : E → Prop
  | mk {k f o v m : Int} {z : Bool} {ps : List E} (hk : -9223372036854775808 ≤ k ∧ k ≤ 9223372036854775807) (hf : -9223372036854775808 ≤ f ∧ f ≤ 9223372036854775807) (ho : -9223372036854775808 ≤ o ∧ o ≤ 9223372036854775807) (hv : 0 ≤ v ∧ v < 18446744073709551616) (hm : 0 ≤ m ∧ m < 18446744073709551616) (hl : ps.length * 64 ≤ 2 ^ 47) (hp : ∀ p ∈ ps, E.Ok p) : E.Ok (.mk k f o v m z ps)
theorem hpE : (∀ (H : List (Nat × Ob)) (b c : Nat) (x : Ob), hget (hset H b x) c = if c = b then (hget H b).map (fun _ => x) else hget H c) ∧ (∀ (H : List (Nat × Ob)) (i b : Nat) (o : Ob), i ≠ b → hget ((i, o) :: H) b = hget H b) ∧ (∀ (H : List (Nat × Ob)) (b : Nat) (o : Ob), hget ((b, o) :: H) b = some o) ∧ (∀ (H : List (Nat × Ob)) (i b : Nat) (o x : Ob), i ≠ b → hset ((i, o) :: H) b x = (i, o) :: hset H b x) ∧ (∀ (H : List (Nat × Ob)) (b : Nat) (o x : Ob), hset ((b, o) :: H) b x = (b, x) :: H) := by
  refine ⟨fun H b c x => hget_hset H b c x, fun H i b o h => ?_, fun H b o => ?_, fun H i b o x h => ?_, fun H b o x => ?_⟩
  · simp [hget, h]
  · simp [hget]
  · simp [hset, h]
  · simp [hset]
end Go.Proofs.YtklcmgodhpediaaGreatDoor
/- Small functions: bare, all, is it a field. -/
namespace Go.Proofs.YtklcmgodhpediaaGreatDoor
open Go Go.Vm Go.Proofs

theorem cvE : (0 : Nat) = 0 := rfl
theorem bdE : (0 : Nat) = 0 := rfl
def bitsT : List Nat := [0, 48, 48, 16, 17, 16, 48, 32, 48, 32, 32, 32, 8, 8, 8, 16, 8, 8, 16, 16, 12, 8, 24, 16, 16, 32, 32, 32, 32]
def allN (f : Int) : Int := 2 ^ (bitsT.getD f.toNat 0) - 1
theorem allS (f : Int) (h1 : 1 ≤ f) (h2 : f ≤ 28) (st : St) : FnS cx 42 [.int .i64 f] st (.int .u64 (allN f)) st := by
  have h : f = 1 ∨ f = 2 ∨ f = 3 ∨ f = 4 ∨ f = 5 ∨ f = 6 ∨ f = 7 ∨ f = 8 ∨ f = 9 ∨ f = 10 ∨ f = 11 ∨ f = 12 ∨ f = 13 ∨ f = 14 ∨ f = 15 ∨ f = 16 ∨ f = 17 ∨ f = 18 ∨ f = 19 ∨ f = 20 ∨ f = 21 ∨ f = 22 ∨ f = 23 ∨ f = 24 ∨ f = 25 ∨ f = 26 ∨ f = 27 ∨ f = 28 := by omega
  rcases h with rfl | rfl | rfl | rfl | rfl | rfl | rfl | rfl | rfl | rfl | rfl | rfl | rfl | rfl | rfl | rfl | rfl | rfl | rfl | rfl | rfl | rfl | rfl | rfl | rfl | rfl | rfl | rfl
  all_goals exact ⟨Fn.ofG (n := 100) (by kernel_rfl) ⟨rfl, rfl⟩⟩
theorem refAllS (f : Int) (h1 : 1 ≤ f) (h2 : f ≤ 28) (st : St) : FnS cx 40 [.int .i64 f] st (.int .u64 (allN f)) st := by
  have h : f = 1 ∨ f = 2 ∨ f = 3 ∨ f = 4 ∨ f = 5 ∨ f = 6 ∨ f = 7 ∨ f = 8 ∨ f = 9 ∨ f = 10 ∨ f = 11 ∨ f = 12 ∨ f = 13 ∨ f = 14 ∨ f = 15 ∨ f = 16 ∨ f = 17 ∨ f = 18 ∨ f = 19 ∨ f = 20 ∨ f = 21 ∨ f = 22 ∨ f = 23 ∨ f = 24 ∨ f = 25 ∨ f = 26 ∨ f = 27 ∨ f = 28 := by omega
  rcases h with rfl | rfl | rfl | rfl | rfl | rfl | rfl | rfl | rfl | rfl | rfl | rfl | rfl | rfl | rfl | rfl | rfl | rfl | rfl | rfl | rfl | rfl | rfl | rfl | rfl | rfl | rfl | rfl
  all_goals exact ⟨Fn.ofG (n := 100) (by kernel_rfl) ⟨rfl, rfl⟩⟩
theorem isS (f : Int) (st : St) : FnS cx 43 [.int .i64 f] st (.bool (decide (1 ≤ f ∧ f ≤ 28))) st := by
  refine goP Tryz.func43 rfl rfl rfl rfl ?_ ?_
  · rfl
  intro t ht
  have a0 : tget t 0 = .int .i64 f := ht 0 _ rfl
  clear ht
  have ex := @a0
  repeat' (first
   | (with_reducible refine isO ?_); first | refine mvA (h := ?_) | refine asA (h := ?_) | refine quA (h := ?_)
   | (with_reducible refine isG ?_); first | refine stA (h := ?_) | refine srA (h := ?_) | refine swA (h := ?_) | refine s1A (h := ?_) | refine s0A (h := ?_) | refine sgA (h1 := fun _ => ?_) (h0 := fun _ => ?_) | refine sbA (h1 := fun _ => ?_) (h0 := fun _ => ?_)
   | (with_reducible refine isC ?_); first | refine ctA (h := ?_) | refine cfA (h := ?_) | refine cdA (h1 := fun _ => ?_) (h0 := fun _ => ?_) | refine cbA (h1 := fun _ => ?_) (h0 := fun _ => ?_)
   | with_reducible first | refine Ev.seq ?_ | refine Ev.ops ?_ | refine NxE ?_ | refine BxN ?_ | refine BxX ?_ | refine NxX ?_ | refine NxR ?_ | refine BxR ?_ | refine Ev.block ?_ | refine Ev.skip ?_ | refine Ev.exit ?_ | refine Ev.ret ?_ | refine EvOps.nil ?_ | refine EvPlan.nil ?_
   | (with_reducible refine BxO ?_ ?_; · decide)
   )
  repeat' refine lfA (rl := [.tmp 2]) rfl (hv := by
      simp only [packV, strip, stripAgg, stripCell, List.map_cons, List.map_nil]
      first | done | rfl | exact congrArg V.bool (decide_eq_decide.2 (by omega)) | exact congrArg V.bool (decide_eq_false (by omega)).symm | exact congrArg V.bool (decide_eq_true (by omega)).symm) (hp := rfl)
theorem bareS (k f o v m : Int) (z : Bool) (ps : List E) (st : St) : FnS cx 41 [E.c (.mk k f o v m z ps)] st (.bool (decide (f = 0 ∧ o = 0 ∧ v = 0 ∧ m = 0))) st := by
  have hu := unown_c (.mk k f o v m z ps)
  have hp := E.pure (.mk k f o v m z ps)
  refine goP Tryz.func41 rfl rfl rfl rfl ?_ ?_
  · simp only [List.map_cons, List.map_nil, hu, pureVs, hp, Bool.and_self]
  intro t ht
  have a0 : tget t 0 = E.c (.mk k f o v m z ps) := ht 0 _ (by simp only [List.map_cons, hu]; rfl)
  clear ht
  rw [E.c] at a0
  have ex := @a0
  repeat' (first
   | (with_reducible refine isO ?_); first | refine mvA (h := ?_) | refine asA (h := ?_) | refine quA (h := ?_)
   | (with_reducible refine isG ?_); first | refine stA (h := ?_) | refine srA (h := ?_) | refine swA (h := ?_) | refine s1A (h := ?_) | refine s0A (h := ?_) | refine sgA (h1 := fun _ => ?_) (h0 := fun _ => ?_) | refine sbA (h1 := fun _ => ?_) (h0 := fun _ => ?_)
   | (with_reducible refine isC ?_); first | refine ctA (h := ?_) | refine cfA (h := ?_) | refine cdA (h1 := fun _ => ?_) (h0 := fun _ => ?_) | refine cbA (h1 := fun _ => ?_) (h0 := fun _ => ?_)
   | with_reducible first | refine Ev.seq ?_ | refine Ev.ops ?_ | refine NxE ?_ | refine BxN ?_ | refine BxX ?_ | refine NxX ?_ | refine NxR ?_ | refine BxR ?_ | refine Ev.block ?_ | refine Ev.skip ?_ | refine Ev.exit ?_ | refine Ev.ret ?_ | refine EvOps.nil ?_ | refine EvPlan.nil ?_
   | (with_reducible refine BxO ?_ ?_; · decide)
   )
  repeat' refine lfA (rl := [.tmp 2]) rfl (hv := by
      simp only [packV, strip, stripAgg, stripCell, List.map_cons, List.map_nil]
      first | done | rfl | exact congrArg V.bool (decide_eq_decide.2 (by omega)) | exact congrArg V.bool (decide_eq_false (by omega)).symm | exact congrArg V.bool (decide_eq_true (by omega)).symm) (hp := rfl)
end Go.Proofs.YtklcmgodhpediaaGreatDoor
/- Comparisons. -/
namespace Go.Proofs.YtklcmgodhpediaaGreatDoor
open Go Go.Vm Go.Proofs

def soP (o a b : Int) : Prop := (o = 1 ∧ a = b) ∨ (o = 2 ∧ a ≠ b) ∨ (o = 3 ∧ a < b) ∨ (o = 4 ∧ a ≤ b) ∨ (o = 5 ∧ b < a) ∨ (o = 6 ∧ b ≤ a)
instance (o a b : Int) : Decidable (soP o a b) := by unfold soP; infer_instance

theorem compS (o a b : Int) (h1 : 1 ≤ o) (h6 : o ≤ 6) (st : St) : FnS cx 60 [.int .i64 o, .int .u64 a, .int .u64 b] st (.bool (decide (soP o a b))) st := by
  refine goP Tryz.func60 rfl rfl rfl rfl ?_ ?_
  · rfl
  intro t ht
  have a0 : tget t 0 = .int .i64 o := ht 0 _ rfl
  have a1 : tget t 1 = .int .u64 a := ht 1 _ rfl
  have a2 : tget t 2 = .int .u64 b := ht 2 _ rfl
  clear ht
  have ex := And.intro @a0 (And.intro @a1 @a2)
  repeat' (first
   | (with_reducible refine isO ?_); first | refine mvA (h := ?_) | refine asA (h := ?_) | refine quA (h := ?_)
   | (with_reducible refine isG ?_); first | refine stA (h := ?_) | refine srA (h := ?_) | refine swA (h := ?_) | refine s1A (h := ?_) | refine s0A (h := ?_) | refine sgA (h1 := fun _ => ?_) (h0 := fun _ => ?_) | refine sbA (h1 := fun _ => ?_) (h0 := fun _ => ?_)
   | (with_reducible refine isC ?_); first | refine ctA (h := ?_) | refine cfA (h := ?_) | refine cdA (h1 := fun _ => ?_) (h0 := fun _ => ?_) | refine cbA (h1 := fun _ => ?_) (h0 := fun _ => ?_)
   | with_reducible first | refine Ev.seq ?_ | refine Ev.ops ?_ | refine NxE ?_ | refine BxN ?_ | refine BxX ?_ | refine NxX ?_ | refine NxR ?_ | refine BxR ?_ | refine Ev.block ?_ | refine Ev.skip ?_ | refine Ev.exit ?_ | refine Ev.ret ?_ | refine EvOps.nil ?_ | refine EvPlan.nil ?_
   | (with_reducible refine BxO ?_ ?_; · decide)
   )
  repeat' refine lfA (rl := [.tmp 6]) rfl (hv := by
      simp only [packV, strip, stripAgg, stripCell, List.map_cons, List.map_nil]
      first | (exfalso; omega) | (unfold soP; first | done | rfl | exact congrArg V.bool (decide_eq_decide.2 (by omega)) | exact congrArg V.bool (decide_eq_false (by omega)).symm | exact congrArg V.bool (decide_eq_true (by omega)).symm)) (hp := rfl)

end Go.Proofs.YtklcmgodhpediaaGreatDoor
/- Whether an expression may be: the program. -/
namespace Go.Proofs.YtklcmgodhpediaaGreatDoor
open Go Go.Vm Go.Proofs

def andn (a b : Int) : Int := IntKind.u64.wrap (BitVec.ofInt IntKind.u64.bits a &&& ~~~ BitVec.ofInt IntKind.u64.bits b).toNat
theorem andnE : ∀ a b : Int, intBin .andNot .u64 a b = some (.int .u64 (andn a b)) := fun _ _ => rfl
def nodeP (k f o v m : Int) (n : Nat) : Prop :=
  ((k = 1 ∨ k = 2) ∧ (f = 0 ∧ o = 0 ∧ v = 0 ∧ m = 0) ∧ n = 0) ∨ (k = 4 ∧ (f = 0 ∧ o = 0 ∧ v = 0 ∧ m = 0) ∧ n = 1) ∨ ((k = 5 ∨ k = 6) ∧ (f = 0 ∧ o = 0 ∧ v = 0 ∧ m = 0) ∧ 2 ≤ n) ∨
    (k = 3 ∧ n = 0 ∧ 1 ≤ f ∧ f ≤ 28 ∧ 1 ≤ o ∧ o ≤ 6 ∧ 0 < m ∧ m ≤ allN f ∧ andn v m = 0 ∧ (o ≤ 2 ∨ m = allN f))
instance (k f o v m : Int) (n : Nat) : Decidable (nodeP k f o v m n) := by unfold nodeP; infer_instance
mutual
def okE : Int → E → Bool
  | d, .mk k f o v m z ps => decide (d ≤ 64) && (okEs (d + 1) ps && decide (nodeP k f o v m ps.length))
def okEs : Int → List E → Bool
  | _, [] => true
  | d, e :: r => okE d e && okEs d r
end
theorem okEs_drop (d : Int) {ps : List E} {i : Nat} {q : E} (h : ps[i]? = some q) : okEs d (ps.drop i) = (okE d q && okEs d (ps.drop (i + 1))) := by
  obtain ⟨hi, rfl⟩ := List.getElem?_eq_some_iff.1 h
  rw [List.drop_eq_getElem_cons hi, okEs]
theorem hpB : (∀ n : Nat, (n == n) = true) ∧ (∀ a b : Nat, a ≠ b → (a == b) = false) := ⟨fun n => by simp, fun a b h => by simpa using h⟩
theorem part_at {ps : List E} {i : Nat} (h : i < ps.length) : ∃ k f o v m z qs, ps[i]? = some (.mk k f o v m z qs) ∧ (E.cs ps)[i]? = some (.agg [.int .i64 k, .int .i64 f, .int .i64 o, .int .u64 v, .int .u64 m, .sl (tipB z) (E.cs qs)]) ∧ E.mk k f o v m z qs ∈ ps := by
  have hq : ps[i]? = some ps[i] := List.getElem?_eq_getElem h
  cases hp : ps[i] with
  | mk k f o v m z qs =>
    rw [hp] at hq
    exact ⟨k, f, o, v, m, z, qs, hq, by rw [cs_get, hq]; simp only [Option.map_some, E.c], List.mem_of_getElem? hq⟩
theorem szOk_cs (ps : List E) : szOk 6 (E.cs ps) = true := by
  cases ps with
  | nil => rfl
  | cons e r => cases e; simp [E.cs, E.c, szOk, ncells]
theorem unL : (∀ k n, unown (.int k n) = .int k n) ∧ (∀ b, unown (.bool b) = .bool b) := ⟨fun _ _ => rfl, fun _ => rfl⟩
theorem zvE : zeroV cx 25 = some (.agg [.int .i64 0, .int .i64 0, .int .i64 0, .int .u64 0, .int .u64 0, .sl .full []]) ∧ (∀ cs, cellsOf (.agg cs) = some cs) := ⟨by rfl, fun _ => rfl⟩
set_option maxHeartbeats 8000000 in
theorem rightS : ∀ e : E, e.Ok → ∀ d : Int, 0 ≤ d → d ≤ 100 → ∀ st, FnS cx 24 [e.c, .int .i64 d] st (.bool (okE d e)) st := by
  refine E.ind fun k f o v m z ps ih => ?_
  intro hok d hd1 hd2 st
  obtain ⟨hk, hf, ho, hv, hm, hl, hpo⟩ := hok
  have hu := unown_c (.mk k f o v m z ps)
  have hp := E.pure (.mk k f o v m z ps)
  have hcl := cs_len ps
  have hso := szOk_cs ps
  refine goP Tryz.func24 rfl rfl rfl rfl ?_ ?_
  · simp only [List.map_cons, List.map_nil, hu, unL, pureVs, pureV, hp, Bool.and_self]
  intro t ht
  have a0 : tget t 0 = E.c (.mk k f o v m z ps) := ht 0 _ (by simp only [List.map_cons, hu]; rfl)
  have a1 : tget t 1 = .int .i64 d := ht 1 _ rfl
  clear ht
  rw [E.c] at a0
  have ex := And.intro @a0 (And.intro @a1 (And.intro @hcl (And.intro @hpB @hso)))
  repeat' (first
   | (with_reducible refine isO ?_); first | refine mvA (h := ?_) | refine asA (h := ?_) | refine quA (h := ?_) | refine wnA (h := ?_) | refine caA (hc := bareS _ _ _ _ _ _ _ _) (h := ?_)
   | (with_reducible refine isG ?_); first | refine stA (h := ?_) | refine srA (h := ?_) | refine swA (h := ?_) | refine s1A (h := ?_) | refine s0A (h := ?_) | refine sgA (h1 := fun _ => ?_) (h0 := fun _ => ?_) | refine sbA (h1 := fun _ => ?_) (h0 := fun _ => ?_)
   | (with_reducible refine isP ?_); first | refine dqA (h := ?_) | refine dqAG (h := ?_) | refine dcAG (i := 32) (l := [29]) (hc := (allS _ (by omega) (by omega) _)) (h := ?_) | refine dcAG (i := 52) (l := [49]) (hc := (allS _ (by omega) (by omega) _)) (h := ?_) | refine dsA (h := ?_) | refine dtA (h := ?_) | refine dgA (h1 := fun _ => ?_) (h0 := fun _ => ?_)
   | (with_reducible refine isC ?_); first | refine ctA (h := ?_) | refine cfA (h := ?_) | refine cdA (h1 := fun _ => ?_) (h0 := fun _ => ?_) | refine cbA (h1 := fun _ => ?_) (h0 := fun _ => ?_)
   | (with_reducible refine isR ?_); first
     | refine Ev.drawn (by decide +kernel) (l := [0, 1, 2, 3, 4, 5, 6, 7, 8, 9, 10, 11, 12, 13, 14, 15, 16, 17, 18, 19, 20, 21, 22, 23, 24, 25, 26, 27, 28, 29, 30, 31, 32, 33, 34, 35, 36, 37, 38, 39, 40, 41, 42, 43, 44, 45, 46, 47, 48, 49, 50, 51, 52, 53, 54, 55, 56]) (by decide +kernel) ?_
   | with_reducible first | refine Ev.seq ?_ | refine Ev.ops ?_ | refine NxE ?_ | refine BxN ?_ | refine BxX ?_ | refine NxX ?_ | refine NxR ?_ | refine BxR ?_ | refine Ev.block ?_ | refine Ev.skip ?_ | refine Ev.exit ?_ | refine Ev.ret ?_ | refine EvOps.nil ?_ | refine EvPlan.nil ?_
   | (with_reducible refine BxO ?_ ?_; · decide)
   )
  · refine lfA (rl := [.tmp 4]) rfl (hv := by
      simp only [packV, strip, stripAgg, stripCell, List.map_cons, List.map_nil]
      rw [okE, decide_eq_false (by omega)]; rfl) (hp := rfl)
  refine loopT (fun r t st => ∃ (i : Nat) (H : List (Nat × Ob)) (n : Nat), r = ps.length - i ∧ i ≤ ps.length ∧ okEs (d + 1) ps = okEs (d + 1) (ps.drop i) ∧ tget t 1 = .int .i64 d ∧ tget t 2 = .ptr 0 0 ∧ tget t 11 = .sl (tipB z) (E.cs ps) ∧ tget t 12 = .int .i64 (ps.length : Nat) ∧ tget t 13 = .int .i64 i ∧ st = ⟨H, n⟩ ∧ hget H 0 = some (.cells [.int .i64 k, .int .i64 f, .int .i64 o, .int .u64 v, .int .u64 m, .sl (tipB z) (E.cs ps)]) ∧ 0 < n) (n := ps.length) ?_ ?_
  · refine ⟨0, _, _, by omega, by omega, rfl, ?_, ?_, ?_, ?_, ?_, rfl, rfl, by omega⟩
    · simp only [↓evP, ↓tgP, ↓reduceIte, Nat.reduceEqDiff, reduceCtorEq, List.map_cons, List.map_nil, List.nil_append, List.append_nil, List.toList_toArray, a1]
    · simp only [↓evP, ↓tgP, ↓reduceIte, Nat.reduceEqDiff, reduceCtorEq, List.map_cons, List.map_nil, List.nil_append, List.append_nil, List.toList_toArray, a0]
    · simp only [↓evP, ↓tgP, ↓reduceIte, Nat.reduceEqDiff, reduceCtorEq, List.map_cons, List.map_nil, List.nil_append, List.append_nil, List.toList_toArray, a0]
    · simp only [↓evP, ↓tgP, ↓reduceIte, Nat.reduceEqDiff, reduceCtorEq, List.map_cons, List.map_nil, List.nil_append, List.append_nil, List.toList_toArray, a0]
    · simp only [↓evP, ↓tgP, ↓reduceIte, Nat.reduceEqDiff, reduceCtorEq, List.map_cons, List.map_nil, List.nil_append, List.append_nil, List.toList_toArray, a0]; rfl
  rintro r t st ⟨i, H, n, rfl, hi, hF, c1, c2, c11, c12, c13, rfl, h0, hn⟩
  rcases Nat.lt_or_ge i ps.length with hlt | hge
  · obtain ⟨qk, qf, qo, qv, qm, qz, qs, hq, hqc, hqm⟩ := part_at hlt
    have hih := ih _ hqm (hpo _ hqm) (d + 1) (by omega) (by omega)
    rw [E.c] at hih
    have ex := And.intro @c1 (And.intro @c2 (And.intro @c11 (And.intro @c12 (And.intro @c13 (And.intro @h0 (And.intro @hcl (And.intro @hso (And.intro @hqc (And.intro @hpB (And.intro @hpE @zvE))))))))))
    repeat' (first
     | (with_reducible refine isO ?_); first | refine mvA (h := ?_) | refine asA (h := ?_) | refine quA (h := ?_) | refine wnA (h := ?_) | refine caA (hc := hih _) (h := ?_)
     | (with_reducible refine isG ?_); first | refine stA (h := ?_) | refine srA (h := ?_) | refine swA (h := ?_) | refine s1A (h := ?_) | refine s0A (h := ?_) | refine sgA (h1 := fun _ => ?_) (h0 := fun _ => ?_) | refine sbA (h1 := fun _ => ?_) (h0 := fun _ => ?_)
     | (with_reducible refine isP ?_); first | refine dqA (h := ?_) | refine dqAG (h := ?_) | refine dsA (h := ?_) | refine dtA (h := ?_) | refine dgA (h1 := fun _ => ?_) (h0 := fun _ => ?_)
     | (with_reducible refine isC ?_); first | refine ctA (h := ?_) | refine cfA (h := ?_) | refine cdA (h1 := fun _ => ?_) (h0 := fun _ => ?_) | refine cbA (h1 := fun _ => ?_) (h0 := fun _ => ?_)
     | (with_reducible refine isR ?_); first
       | refine Ev.drawn (by decide +kernel) (l := [0, 1, 2, 3, 4, 5, 6, 7, 8, 9, 10, 11, 12, 13, 14, 15, 16, 17, 18, 19, 20, 21, 22, 23, 24, 25, 26, 27, 28, 29, 30, 31, 32, 33, 34, 35, 36, 37, 38, 39, 40, 41, 42, 43, 44, 45, 46, 47, 48, 49, 50, 51, 52, 53, 54, 55, 56]) (by decide +kernel) ?_
     | with_reducible first | refine Ev.seq ?_ | refine Ev.ops ?_ | refine NxE ?_ | refine BxN ?_ | refine BxX ?_ | refine NxX ?_ | refine NxR ?_ | refine BxR ?_ | refine Ev.block ?_ | refine Ev.skip ?_ | refine Ev.exit ?_ | refine Ev.ret ?_ | refine EvOps.nil ?_ | refine EvPlan.nil ?_
     | (with_reducible refine BxO ?_ ?_; · decide)
     )
    · rename_i hb
      rw [Bool.not_eq_true'] at hb
      refine lfA (rl := [.tmp 4]) rfl (hv := by
      simp only [packV, strip, stripAgg, stripCell, List.map_cons, List.map_nil]
      rw [okE, hF, okEs_drop _ hq, hb]; simp) (hp := rfl)
    · rename_i hb
      rw [Bool.not_eq_false'] at hb
      refine ⟨ps.length - (i + 1), by omega, rfl, i + 1, _, _, rfl, by omega, by rw [hF, okEs_drop _ hq, hb, Bool.true_and], ?_, ?_, ?_, ?_, ?_, rfl, ?_, Nat.succ_pos _⟩
      · simp only [↓evP, ↓tgP, ↓reduceIte, Nat.reduceEqDiff, reduceCtorEq, List.map_cons, List.map_nil, List.nil_append, List.append_nil, List.toList_toArray, c1]
      · simp only [↓evP, ↓tgP, ↓reduceIte, Nat.reduceEqDiff, reduceCtorEq, List.map_cons, List.map_nil, List.nil_append, List.append_nil, List.toList_toArray, c2]
      · simp only [↓evP, ↓tgP, ↓reduceIte, Nat.reduceEqDiff, reduceCtorEq, List.map_cons, List.map_nil, List.nil_append, List.append_nil, List.toList_toArray, c11]
      · simp only [↓evP, ↓tgP, ↓reduceIte, Nat.reduceEqDiff, reduceCtorEq, List.map_cons, List.map_nil, List.nil_append, List.append_nil, List.toList_toArray, c12]
      · simp only [↓evP, ↓tgP, ↓reduceIte, Nat.reduceEqDiff, reduceCtorEq, List.map_cons, List.map_nil, List.nil_append, List.append_nil, List.toList_toArray, c13]; rfl
      · simp (disch := omega) only [hpE, h0]
  · obtain rfl : i = ps.length := by omega
    rw [List.drop_length] at hF
    rw [okEs] at hF
    have hbare := bareS k f o v m z ps
    simp only [E.c] at hbare
    have ex := And.intro @c1 (And.intro @c2 (And.intro @c11 (And.intro @c12 (And.intro @c13 (And.intro @h0 (And.intro @hcl (And.intro @hso (And.intro @hpB @hpE))))))))
    have exd := @andnE
    repeat' (first
     | (with_reducible refine isO ?_); first | refine mvA (h := ?_) | refine asA (h := ?_) | refine quA (h := ?_) | refine wnA (h := ?_) | refine caA (hc := hbare _) (h := ?_)
     | (with_reducible refine isG ?_); first | refine stA (h := ?_) | refine srA (h := ?_) | refine swA (h := ?_) | refine s1A (h := ?_) | refine s0A (h := ?_) | refine sgA (h1 := fun _ => ?_) (h0 := fun _ => ?_) | refine sbA (h1 := fun _ => ?_) (h0 := fun _ => ?_)
     | (with_reducible refine isP ?_); first | refine dqA (h := ?_) | refine dqAG (h := ?_) | refine dcAG (i := 32) (l := [29]) (hc := (allS _ (by omega) (by omega) _)) (h := ?_) | refine dcAG (i := 52) (l := [49]) (hc := (allS _ (by omega) (by omega) _)) (h := ?_) | refine dsA (h := ?_) | refine dtA (h := ?_) | refine dgA (h1 := fun _ => ?_) (h0 := fun _ => ?_)
     | (with_reducible refine isC ?_); first | refine ctA (h := ?_) | refine cfA (h := ?_) | refine cdA (h1 := fun _ => ?_) (h0 := fun _ => ?_) | refine cbA (h1 := fun _ => ?_) (h0 := fun _ => ?_)
     | (with_reducible refine isR ?_); first
       | refine Ev.drawn (by decide +kernel) (l := [0, 1, 2, 3, 4, 5, 6, 7, 8, 9, 10, 11, 12, 13, 14, 15, 16, 17, 18, 19, 20, 21, 22, 23, 24, 25, 26, 27, 28, 29, 30, 31, 32, 33, 34, 35, 36, 37, 38, 39, 40, 41, 42, 43, 44, 45, 46, 47, 48, 49, 50, 51, 52, 53, 54, 55, 56]) (by decide +kernel) ?_
     | with_reducible first | refine Ev.seq ?_ | refine Ev.ops ?_ | refine NxE ?_ | refine BxN ?_ | refine BxX ?_ | refine NxX ?_ | refine NxR ?_ | refine BxR ?_ | refine Ev.block ?_ | refine Ev.skip ?_ | refine Ev.exit ?_ | refine Ev.ret ?_ | refine EvOps.nil ?_ | refine EvPlan.nil ?_
     | (with_reducible refine BxO ?_ ?_; · decide)
     )
    all_goals
      refine lfA (rl := [.tmp 4]) rfl (hv := by
      simp only [packV, strip, stripAgg, stripCell, List.map_cons, List.map_nil]
      rw [okE, hF, decide_eq_true (show d ≤ 64 by omega), Bool.true_and, Bool.true_and]; unfold nodeP; (first | (exfalso; omega) | (first | done | rfl | exact congrArg V.bool (decide_eq_decide.2 (by omega)) | exact congrArg V.bool (decide_eq_false (by omega)).symm | exact congrArg V.bool (decide_eq_true (by omega)).symm))) (hp := rfl)
end Go.Proofs.YtklcmgodhpediaaGreatDoor
