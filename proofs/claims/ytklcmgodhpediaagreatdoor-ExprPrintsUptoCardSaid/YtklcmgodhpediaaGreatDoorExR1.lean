/- Numbers as texts of sixteen digits. -/
import Derived.Test.YtklcmgodhpediaaGreatDoorExQ1
set_option linter.unusedSimpArgs false
set_option linter.unusedVariables false
set_option maxRecDepth 100000
namespace Go.Proofs.YtklcmgodhpediaaGreatDoor.P
open Go Go.Vm Go.Proofs Go.Proofs.YtklcmgodhpediaaGreatDoor

theorem tyE0 : cx.P = Tryz.prog ∧ (Tryz.prog.underlying 3 = some (TypeDesc.int IntKind.i64) ∧ Tryz.prog.underlying 4 = some TypeDesc.bool ∧ Tryz.prog.underlying 5 = some (TypeDesc.int IntKind.u8) ∧ Tryz.prog.underlying 9 = some TypeDesc.string ∧ Tryz.prog.underlying 20 = some (TypeDesc.interface #[]) ∧ Tryz.prog.underlying 22 = some (TypeDesc.int IntKind.u64) ∧ Tryz.prog.underlying 23 = some (TypeDesc.slice 25) ∧ Tryz.prog.underlying 44 = some (TypeDesc.int IntKind.i64) ∧ Tryz.prog.underlying 73 = some (TypeDesc.slice 3) ∧ Tryz.prog.underlying 74 = some (TypeDesc.slice 9) ∧ Tryz.prog.underlying 101 = some (TypeDesc.map 9 3) ∧ Tryz.prog.underlying 104 = some (TypeDesc.slice 5) ∧ Tryz.prog.underlying 130 = some (TypeDesc.int IntKind.u64) ∧ Tryz.prog.underlying 168 = some (TypeDesc.map 9 22) ∧ Tryz.prog.underlying 171 = some (TypeDesc.array 24 5) ∧ Tryz.prog.underlying 197 = some (TypeDesc.array 65 5))
  := ⟨rfl, Tryz.underlying3, Tryz.underlying4, Tryz.underlying5, Tryz.underlying9, Tryz.underlying20, Tryz.underlying22, Tryz.underlying23, Tryz.underlying44, Tryz.underlying73, Tryz.underlying74, Tryz.underlying101, Tryz.underlying104, Tryz.underlying130, Tryz.underlying168, Tryz.underlying171, Tryz.underlying197⟩
theorem tyS : (szOf cx 3 = some 1 ∧ szOf cx 4 = some 1 ∧ szOf cx 5 = some 1 ∧ szOf cx 9 = some 1 ∧ szOf cx 20 = some 1 ∧ szOf cx 22 = some 1 ∧ szOf cx 23 = some 1 ∧ szOf cx 25 = some 6 ∧ szOf cx 41 = some 49 ∧ szOf cx 44 = some 1 ∧ szOf cx 73 = some 1 ∧ szOf cx 74 = some 1 ∧ szOf cx 97 = some 5 ∧ szOf cx 101 = some 1 ∧ szOf cx 104 = some 1 ∧ szOf cx 106 = some 2 ∧ szOf cx 130 = some 1 ∧ szOf cx 168 = some 1 ∧ szOf cx 171 = some 24 ∧ szOf cx 197 = some 65) := by refine ⟨?_, ?_, ?_, ?_, ?_, ?_, ?_, ?_, ?_, ?_, ?_, ?_, ?_, ?_, ?_, ?_, ?_, ?_, ?_, ?_⟩ <;> decide +kernel
theorem tyX : ((Tryz.prog.underlying 25 = some (TypeDesc.struct #[{ name := "Kind", type := 3, offset := 0, embedded := false, tag := "", pkgPath := "", byteOffset := 0 }, { name := "Field", type := 3, offset := 1, embedded := false, tag := "", pkgPath := "", byteOffset := 8 }, { name := "Op", type := 3, offset := 2, embedded := false, tag := "", pkgPath := "", byteOffset := 16 }, { name := "Value", type := 22, offset := 3, embedded := false, tag := "", pkgPath := "", byteOffset := 24 }, { name := "Mask", type := 22, offset := 4, embedded := false, tag := "", pkgPath := "", byteOffset := 32 }, { name := "Parts", type := 23, offset := 5, embedded := false, tag := "", pkgPath := "", byteOffset := 40 }])) ∧ (Tryz.prog.underlying 41 = some (TypeDesc.struct #[{ name := "P", type := 36, offset := 0, embedded := false, tag := "", pkgPath := "", byteOffset := 0 }, { name := "Ct", type := 3, offset := 36, embedded := false, tag := "", pkgPath := "", byteOffset := 312 }, { name := "Dp", type := 3, offset := 37, embedded := false, tag := "", pkgPath := "", byteOffset := 320 }, { name := "In", type := 3, offset := 38, embedded := false, tag := "", pkgPath := "", byteOffset := 328 }, { name := "Out", type := 3, offset := 39, embedded := false, tag := "", pkgPath := "", byteOffset := 336 }, { name := "Regs", type := 37, offset := 40, embedded := false, tag := "", pkgPath := "", byteOffset := 344 }, { name := "Orig", type := 39, offset := 44, embedded := false, tag := "", pkgPath := "", byteOffset := 360 }])) ∧ (Tryz.prog.underlying 97 = some (TypeDesc.struct #[{ name := "name", type := 9, offset := 0, embedded := false, tag := "", pkgPath := "skein/field", byteOffset := 0 }, { name := "bits", type := 3, offset := 1, embedded := false, tag := "", pkgPath := "skein/field", byteOffset := 16 }, { name := "has", type := 93, offset := 2, embedded := false, tag := "", pkgPath := "skein/field", byteOffset := 24 }, { name := "get", type := 94, offset := 3, embedded := false, tag := "", pkgPath := "skein/field", byteOffset := 32 }, { name := "set", type := 95, offset := 4, embedded := false, tag := "", pkgPath := "skein/field", byteOffset := 40 }])) ∧ (Tryz.prog.underlying 106 = some (TypeDesc.struct #[{ name := "addr", type := 103, offset := 0, embedded := false, tag := "", pkgPath := "strings", byteOffset := 0 }, { name := "buf", type := 104, offset := 1, embedded := false, tag := "", pkgPath := "strings", byteOffset := 8 }]))) := ⟨Tryz.underlying25, Tryz.underlying41, Tryz.underlying97, Tryz.underlying106⟩

theorem tyE : (cx.P = Tryz.prog ∧ (Tryz.prog.underlying 3 = some (TypeDesc.int IntKind.i64) ∧ Tryz.prog.underlying 4 = some TypeDesc.bool ∧ Tryz.prog.underlying 5 = some (TypeDesc.int IntKind.u8) ∧ Tryz.prog.underlying 9 = some TypeDesc.string ∧ Tryz.prog.underlying 20 = some (TypeDesc.interface #[]) ∧ Tryz.prog.underlying 22 = some (TypeDesc.int IntKind.u64) ∧ Tryz.prog.underlying 23 = some (TypeDesc.slice 25) ∧ Tryz.prog.underlying 44 = some (TypeDesc.int IntKind.i64) ∧ Tryz.prog.underlying 73 = some (TypeDesc.slice 3) ∧ Tryz.prog.underlying 74 = some (TypeDesc.slice 9) ∧ Tryz.prog.underlying 101 = some (TypeDesc.map 9 3) ∧ Tryz.prog.underlying 104 = some (TypeDesc.slice 5) ∧ Tryz.prog.underlying 130 = some (TypeDesc.int IntKind.u64) ∧ Tryz.prog.underlying 168 = some (TypeDesc.map 9 22) ∧ Tryz.prog.underlying 171 = some (TypeDesc.array 24 5) ∧ Tryz.prog.underlying 197 = some (TypeDesc.array 65 5))) ∧ (szOf cx 3 = some 1 ∧ szOf cx 4 = some 1 ∧ szOf cx 5 = some 1 ∧ szOf cx 9 = some 1 ∧ szOf cx 20 = some 1 ∧ szOf cx 22 = some 1 ∧ szOf cx 23 = some 1 ∧ szOf cx 25 = some 6 ∧ szOf cx 41 = some 49 ∧ szOf cx 44 = some 1 ∧ szOf cx 73 = some 1 ∧ szOf cx 74 = some 1 ∧ szOf cx 97 = some 5 ∧ szOf cx 101 = some 1 ∧ szOf cx 104 = some 1 ∧ szOf cx 106 = some 2 ∧ szOf cx 130 = some 1 ∧ szOf cx 168 = some 1 ∧ szOf cx 171 = some 24 ∧ szOf cx 197 = some 65) := And.intro tyE0 tyS
theorem cvE : (∀ H n, convV cx H 3 22 (.int .i64 n) = some (.int .u64 (IntKind.u64.wrap n))) ∧ (∀ H n, convV cx H 3 130 (.int .i64 n) = some (.int .u64 (IntKind.u64.wrap n))) := ⟨fun _ _ => rfl, fun _ _ => rfl⟩
theorem bdE : (0 : Nat) = 0 := rfl
theorem cvB : ∀ (H : List (Nat × Ob)) (u : Tip) (b : UInt8), convV cx H 104 9 (.sl u [.int .u8 (b.toNat : Int)]) = some (.str [b]) := by
  intro H u b
  have : ∀ b : UInt8, toBytes [.int .u8 (b.toNat : Int)] = some [b] := by
    intro b
    have h := b.toNat_lt
    simp [toBytes]
  simp only [convV, tyE, this]
  rfl
theorem bsB : ∀ v : Int, buildSliceV cx 104 1 [(0, .int .u8 v)] = some (.sl .full [.int .u8 v]) := fun v => by rfl
theorem dg16 : ∀ m : Fin 16, ([48, 49, 50, 51, 52, 53, 54, 55, 56, 57, 97, 98, 99, 100, 101, 102] : List UInt8)[m.val]? = some (L.hexD m.val) := by decide +kernel
theorem dgR (x : Nat) : ([48, 49, 50, 51, 52, 53, 54, 55, 56, 57, 97, 98, 99, 100, 101, 102] : List UInt8)[x % 16]? = some (L.hexD (x % 16)) := dg16 ⟨x % 16, Nat.mod_lt _ (by decide)⟩

set_option maxHeartbeats 4000000 in
theorem refHexS (v : Nat) (hv : v < 18446744073709551616) (st : St) : FnS cx 39 [.int .u64 (v : Nat)] st (.str (K.hexT v)) st := by
  refine goP Tryz.func39 rfl rfl rfl rfl ?_ ?_
  · rfl
  intro t ht
  have a0 : tget t 0 = .int .u64 (v : Nat) := ht 0 _ rfl
  clear ht
  have ex := And.intro @a0 @hpB
  repeat' (first
   | (with_reducible refine isO ?_); first | refine mvA (h := ?_) | refine asA (h := ?_) | refine quA (h := ?_)
   | (with_reducible refine isC ?_); first | refine ctA (h := ?_) | refine cfA (h := ?_) | refine cdA (h1 := fun _ => ?_) (h0 := fun _ => ?_) | refine cbA (h1 := fun _ => ?_) (h0 := fun _ => ?_)
   | with_reducible first | refine Ev.seq ?_ | refine Ev.ops ?_ | refine NxE ?_ | refine BxN ?_ | refine BxX ?_ | refine NxX ?_ | refine NxR ?_ | refine BxR ?_ | refine Ev.block ?_ | refine Ev.skip ?_ | refine Ev.exit ?_ | refine Ev.ret ?_ | refine EvOps.nil ?_ | refine EvPlan.nil ?_
   | (with_reducible refine BxO ?_ ?_; · decide)
   )
  refine loopT (fun r t st => ∃ (x : Nat) (w : List UInt8), r = x ∧ x < 18446744073709551616 ∧ L.hexDigits v = L.hexDigits x ++ w ∧ tget t 0 = .int .u64 (x : Nat) ∧ tget t 3 = .str w ∧ st = ⟨[], 0⟩) (n := v) ?_ ?_
  · refine ⟨v, [], rfl, hv, by simp, ?_, ?_, rfl⟩
    · simp only [↓evP, ↓tgP, ↓reduceIte, Nat.reduceEqDiff, reduceCtorEq, List.map_cons, List.map_nil, List.nil_append, List.append_nil, List.toList_toArray, a0]
    · simp only [↓evP, ↓tgP, ↓reduceIte, Nat.reduceEqDiff, reduceCtorEq, List.map_cons, List.map_nil, List.nil_append, List.append_nil, List.toList_toArray, a0]
  clear a0
  rintro r t st ⟨x, w, hr, hx, hw, a0, a3, rfl⟩
  have e1 : (x : Int) % 16 = ((x % 16 : Nat) : Int) := by omega
  have e2 : (x : Int) / 16 = ((x / 16 : Nat) : Int) := by omega
  have e3 : (x % 16 : Nat) < 16 := Nat.mod_lt _ (by decide)
  have e5 := dgR x
  have e6 := L.hexU_length v 15 (by omega)
  rw [hw, List.length_append] at e6
  have e7 : w.length ≤ 16 := by omega
  have e8 : w.length + 1 ≤ 17 := by omega
  have ex := And.intro @a0 (And.intro @a3 (And.intro @hpB (And.intro @e1 (And.intro @e2 (And.intro @e5 (And.intro @cvB @bsB))))))
  repeat' (first
   | (with_reducible refine isO ?_); first | refine mvA (h := ?_) | refine asA (h := ?_) | refine quA (h := ?_)
   | (with_reducible refine isC ?_); first | refine ctA (h := ?_) | refine cfA (h := ?_) | refine cdA (h1 := fun _ => ?_) (h0 := fun _ => ?_) | refine cbA (h1 := fun _ => ?_) (h0 := fun _ => ?_)
   | with_reducible first | refine Ev.seq ?_ | refine Ev.ops ?_ | refine NxE ?_ | refine BxN ?_ | refine BxX ?_ | refine NxX ?_ | refine NxR ?_ | refine BxR ?_ | refine Ev.block ?_ | refine Ev.skip ?_ | refine Ev.exit ?_ | refine Ev.ret ?_ | refine EvOps.nil ?_ | refine EvPlan.nil ?_
   | (with_reducible refine BxO ?_ ?_; · decide)
   )
  · rename_i h0
    have hx16 : x < 16 := by omega
    refine lfA (rl := [.tmp 2]) rfl (hv := by
      simp only [packV, strip, stripAgg, stripCell, List.map_cons, List.map_nil]
      first
       | (rw [K.hexT, hw, L.hexU_small hx16, Nat.mod_eq_of_lt hx16]; rfl)
       | rfl) (hp := rfl)
  · rename_i h0
    have hx16 : ¬ x < 16 := by omega
    refine ⟨x / 16, by omega, rfl, x / 16, L.hexD (x % 16) :: w, rfl, by omega, ?_, ?_, ?_, rfl⟩
    · rw [hw, L.hexU_big hx16, List.append_assoc]; rfl
    · simp only [↓evP, ↓tgP, ↓reduceIte, Nat.reduceEqDiff, reduceCtorEq, List.map_cons, List.map_nil, List.nil_append, List.append_nil, List.toList_toArray, a0]
    · simp only [↓evP, ↓tgP, ↓reduceIte, Nat.reduceEqDiff, reduceCtorEq, List.map_cons, List.map_nil, List.nil_append, List.append_nil, List.toList_toArray, a3]
end Go.Proofs.YtklcmgodhpediaaGreatDoor.P
/- Numbers in sixteen digits, by the library. -/
namespace Go.Proofs.YtklcmgodhpediaaGreatDoor.P
open Go Go.Vm Go.Proofs Go.Proofs.YtklcmgodhpediaaGreatDoor

theorem dh16 : ∀ m : Fin 16, ([48, 49, 50, 51, 52, 53, 54, 55, 56, 57, 97, 98, 99, 100, 101, 102, 103, 104, 105, 106, 107, 108, 109, 110, 111, 112, 113, 114, 115, 116, 117, 118, 119, 120, 121, 122] : List UInt8)[m.val]? = some (L.hexD m.val) := by decide +kernel
theorem dhR (x : Nat) : ([48, 49, 50, 51, 52, 53, 54, 55, 56, 57, 97, 98, 99, 100, 101, 102, 103, 104, 105, 106, 107, 108, 109, 110, 111, 112, 113, 114, 115, 116, 117, 118, 119, 120, 121, 122] : List UInt8)[x % 16]? = some (L.hexD (x % 16)) := dh16 ⟨x % 16, Nat.mod_lt _ (by decide)⟩
theorem dhL {x : Nat} (h : x < 16) : ([48, 49, 50, 51, 52, 53, 54, 55, 56, 57, 97, 98, 99, 100, 101, 102, 103, 104, 105, 106, 107, 108, 109, 110, 111, 112, 113, 114, 115, 116, 117, 118, 119, 120, 121, 122] : List UInt8)[x]? = some (L.hexD x) := dh16 ⟨x, h⟩
theorem and15 {x : Nat} (h : x < 18446744073709551616) : intBin .and .u64 (x : Int) 15 = some (.int .u64 ((x % 16 : Nat) : Int)) := by
  show some (V.int .u64 (IntKind.u64.wrap ((BitVec.ofInt 64 (x : Int) &&& BitVec.ofInt 64 15).toNat : Int))) = _
  have e1 : (BitVec.ofInt 64 (x : Int)).toNat = x := by
    rw [BitVec.toNat_ofInt]
    have : ((2 ^ 64 : Nat) : Int) = 18446744073709551616 := by decide
    rw [this]; omega
  have e2 : (BitVec.ofInt 64 15).toNat = 2 ^ 4 - 1 := by decide
  rw [BitVec.toNat_and, e1, e2, Nat.and_two_pow_sub_one_eq_mod]
  congr 1
  congr 1
  rw [wU64]
  have : x % 2 ^ 4 < 16 := Nat.mod_lt _ (by decide)
  show ((x % 16 : Nat) : Int) % _ = _
  omega
def u8s (w : List UInt8) : List V := w.map fun b => .int .u8 (b.toNat : Int)
theorem toBytes_u8s : ∀ w : List UInt8, toBytes (u8s w) = some w
  | [] => rfl
  | b :: w => by
    have := toBytes_u8s w
    simp only [u8s, List.map_cons] at this ⊢
    simp [toBytes, this]
theorem pow2S (st : St) : FnS cx 186 [.int .i64 16] st (.bool true) st := ⟨Fn.ofG (n := 50) (by kernel_rfl) ⟨rfl, rfl⟩⟩
theorem tzS (st : St) : FnS cx 187 [.int .u64 16] st (.int .i64 4) st := ⟨Fn.ofX (v := .int .i64 4) (st' := st) rfl ⟨rfl, rfl⟩⟩
theorem put_at {cs : List V} {k : Nat} {w : List UInt8} {d : UInt8} (hl : cs.length = 65) (hk : k < 65) (hd : cs.drop (k + 1) = u8s w) : ∃ cs2, putAt cs k [.int .u8 (d.toNat : Int)] = cs2 ∧ cs2.length = 65 ∧ cs2.drop k = u8s (d :: w) := by
  refine ⟨_, rfl, ?_, ?_⟩
  · simp only [putAt, List.length_append, List.length_take, List.length_drop, List.length_cons, List.length_nil, hl]; omega
  · have : (cs.take k).length = k := by rw [List.length_take, hl]; omega
    rw [putAt, List.append_assoc, List.drop_left' this]
    simp only [List.length_cons, List.length_nil, Nat.zero_add, hd]
    rfl
theorem zvB : zeroV cx 197 = some (.agg (List.replicate 65 (.int .u8 0))) ∧ (∀ cs, cellsOf (.agg cs) = some cs) ∧ (∀ H n, convV cx H 3 22 (.int .i64 n) = some (.int .u64 (IntKind.u64.wrap n))) := ⟨by rfl, fun _ => rfl, fun _ _ => rfl⟩

set_option maxHeartbeats 8000000 in
theorem bitsS (v : Nat) (hv : v < 18446744073709551616) (st : St) : FnS cx 172 [.sl .full [], .int .u64 (v : Nat), .int .i64 16, .bool false, .bool false] st (.tup [.sl .none [], .str (L.hexDigits v)]) st := by
  refine goP Tryz.func172 rfl rfl rfl rfl ?_ ?_
  · rfl
  intro t ht
  have a0 : tget t 0 = .sl .full [] := ht 0 _ rfl
  have a1 : tget t 1 = .int .u64 (v : Nat) := ht 1 _ rfl
  have a2 : tget t 2 = .int .i64 16 := ht 2 _ rfl
  have a3 : tget t 3 = .bool false := ht 3 _ rfl
  have a4 : tget t 4 = .bool false := ht 4 _ rfl
  clear ht
  generalize hz65 : List.replicate 65 (V.int .u8 0) = cs0 at *
  have hl0 : cs0.length = 65 := by rw [← hz65]; rfl
  have hz : zeroV cx 197 = some (.agg cs0) := by rw [← hz65]; exact zvB.1
  have ex := And.intro @a0 (And.intro @a1 (And.intro @a2 (And.intro @a3 (And.intro @a4 (And.intro @hpB (And.intro @hz @zvB))))))
  repeat' (first
   | (with_reducible refine isO ?_); first | refine mvA (h := ?_) | refine asA (h := ?_) | refine quA (h := ?_) | refine wnA (h := ?_) | refine waA (h := ?_) | refine caA (hc := (pow2S _)) (h := ?_) | refine caA (hc := (tzS _)) (h := ?_)
   | (with_reducible refine isG ?_); first | refine stA (h := ?_) | refine srA (h := ?_) | refine swA (h := ?_) | refine s1A (h := ?_) | refine s0A (h := ?_) | refine sgA (h1 := fun _ => ?_) (h0 := fun _ => ?_) | refine sbA (h1 := fun _ => ?_) (h0 := fun _ => ?_)
   | (with_reducible refine isC ?_); first | refine ctA (h := ?_) | refine cfA (h := ?_) | refine cdA (h1 := fun _ => ?_) (h0 := fun _ => ?_) | refine cbA (h1 := fun _ => ?_) (h0 := fun _ => ?_)
   | with_reducible first | refine Ev.seq ?_ | refine Ev.ops ?_ | refine NxE ?_ | refine BxN ?_ | refine BxX ?_ | refine NxX ?_ | refine NxR ?_ | refine BxR ?_ | refine Ev.block ?_ | refine Ev.skip ?_ | refine Ev.exit ?_ | refine Ev.ret ?_ | refine EvOps.nil ?_ | refine EvPlan.nil ?_
   | (with_reducible refine BxO ?_ ?_; · decide)
   )
  refine loopT (fun r t st => ∃ (x : Nat) (w : List UInt8) (k : Nat) (cs : List V), r = x ∧ x < 18446744073709551616 ∧ L.hexDigits v = L.hexDigits x ++ w ∧ w.length + k = 65 ∧ cs.length = 65 ∧ cs.drop k = u8s w ∧ tget t 0 = .sl .full [] ∧ tget t 1 = .int .u64 (x : Nat) ∧ tget t 2 = .int .i64 16 ∧ tget t 3 = .bool false ∧ tget t 4 = .bool false ∧ tget t 10 = .sl .full [] ∧ tget t 12 = .ptr 0 0 ∧ tget t 13 = .int .i64 (k : Nat) ∧ tget t 14 = .int .u64 4 ∧ tget t 15 = .int .u64 16 ∧ tget t 16 = .int .u64 15 ∧ st = ⟨[(0, .cells cs)], 1⟩) (n := v) ?_ ?_
  · refine ⟨v, [], 65, cs0, rfl, hv, by simp, rfl, hl0, by rw [← hl0, List.drop_length]; rfl, ?_, ?_, ?_, ?_, ?_, ?_, ?_, ?_, ?_, ?_, ?_, rfl⟩
    all_goals first
      | (simp only [↓evP, ↓tgP, ↓reduceIte, Nat.reduceEqDiff, reduceCtorEq, List.map_cons, List.map_nil, List.nil_append, List.append_nil, List.toList_toArray, a0]; done)
      | (simp only [↓evP, ↓tgP, ↓reduceIte, Nat.reduceEqDiff, reduceCtorEq, List.map_cons, List.map_nil, List.nil_append, List.append_nil, List.toList_toArray, a0]; rfl)
      | (simp only [↓evP, ↓tgP, ↓reduceIte, Nat.reduceEqDiff, reduceCtorEq, List.map_cons, List.map_nil, List.nil_append, List.append_nil, List.toList_toArray, a1]; done)
      | (simp only [↓evP, ↓tgP, ↓reduceIte, Nat.reduceEqDiff, reduceCtorEq, List.map_cons, List.map_nil, List.nil_append, List.append_nil, List.toList_toArray, a2]; done)
      | (simp only [↓evP, ↓tgP, ↓reduceIte, Nat.reduceEqDiff, reduceCtorEq, List.map_cons, List.map_nil, List.nil_append, List.append_nil, List.toList_toArray, a3]; done)
      | (simp only [↓evP, ↓tgP, ↓reduceIte, Nat.reduceEqDiff, reduceCtorEq, List.map_cons, List.map_nil, List.nil_append, List.append_nil, List.toList_toArray, a4]; done)
  clear a0 a1 a2 a3 a4
  rintro r t st ⟨x, w, k, cs, hr, hx, hw, hwk, hl, hd, c0, c1, c2, c3, c4, c10, c12, c13, c14, c15, c16, rfl⟩
  have e6 := L.hexU_length v 15 (by omega)
  have hxl : 0 < (L.hexDigits x).length := List.length_pos_iff.2 (L.hexU_ne x)
  rw [hw, List.length_append] at e6
  obtain ⟨k, rfl⟩ : ∃ k', k = k' + 1 := ⟨k - 1, by omega⟩
  have e1 : (((k + 1 : Nat) : Nat) : Int) - 1 = (k : Int) := by omega
  have ek : (k : Int) < 65 := by omega
  have ek2 : k + 1 ≤ cs.length := by omega
  by_cases h16 : 16 ≤ x
  · have hge : decide ((x : Int) ≥ 16) = true := by simp; omega
    obtain ⟨cs2, hput, hl2, hd2⟩ := put_at (d := L.hexD (x % 16)) hl (by omega) hd
    have hand := and15 hx
    have hdg := dhR x
    have e2 : (x : Int) / 16 = ((x / 16 : Nat) : Int) := by omega
    generalize hdd : L.hexD (x % 16) = dd at hput hd2 hdg
    have ex := And.intro @c0 (And.intro @c1 (And.intro @c2 (And.intro @c3 (And.intro @c4 (And.intro @c10 (And.intro @c12 (And.intro @c13 (And.intro @c14 (And.intro @c15 (And.intro @c16 (And.intro @hpB (And.intro @zvB (And.intro @hge (And.intro @e1 (And.intro @e2 @hdg)))))))))))))))
    have exd := And.intro @hput @hand
    repeat' (first
     | (with_reducible refine isO ?_); first | refine mvA (h := ?_) | refine asA (h := ?_) | refine quA (h := ?_) | refine wnA (h := ?_) | refine waA (h := ?_)
     | (with_reducible refine isG ?_); first | refine stA (h := ?_) | refine srA (h := ?_) | refine swA (h := ?_) | refine s1A (h := ?_) | refine s0A (h := ?_) | refine sgA (h1 := fun _ => ?_) (h0 := fun _ => ?_) | refine sbA (h1 := fun _ => ?_) (h0 := fun _ => ?_)
     | (with_reducible refine isC ?_); first | refine ctA (h := ?_) | refine cfA (h := ?_) | refine cdA (h1 := fun _ => ?_) (h0 := fun _ => ?_) | refine cbA (h1 := fun _ => ?_) (h0 := fun _ => ?_)
     | with_reducible first | refine Ev.seq ?_ | refine Ev.ops ?_ | refine NxE ?_ | refine BxN ?_ | refine BxX ?_ | refine NxX ?_ | refine NxR ?_ | refine BxR ?_ | refine Ev.block ?_ | refine Ev.skip ?_ | refine Ev.exit ?_ | refine Ev.ret ?_ | refine EvOps.nil ?_ | refine EvPlan.nil ?_
     | (with_reducible refine BxO ?_ ?_; · decide)
     )
    refine ⟨x / 16, by omega, rfl, x / 16, dd :: w, k, cs2, rfl, by omega, ?_, ?_, hl2, hd2, ?_, ?_, ?_, ?_, ?_, ?_, ?_, ?_, ?_, ?_, ?_, rfl⟩
    · rw [hw, L.hexU_big (by omega), List.append_assoc, hdd]; rfl
    · simp only [List.length_cons]; omega
    · simp only [↓evP, ↓tgP, ↓reduceIte, Nat.reduceEqDiff, reduceCtorEq, List.map_cons, List.map_nil, List.nil_append, List.append_nil, List.toList_toArray, c0]
    · simp only [↓evP, ↓tgP, ↓reduceIte, Nat.reduceEqDiff, reduceCtorEq, List.map_cons, List.map_nil, List.nil_append, List.append_nil, List.toList_toArray, c1]
    · simp only [↓evP, ↓tgP, ↓reduceIte, Nat.reduceEqDiff, reduceCtorEq, List.map_cons, List.map_nil, List.nil_append, List.append_nil, List.toList_toArray, c2]
    · simp only [↓evP, ↓tgP, ↓reduceIte, Nat.reduceEqDiff, reduceCtorEq, List.map_cons, List.map_nil, List.nil_append, List.append_nil, List.toList_toArray, c3]
    · simp only [↓evP, ↓tgP, ↓reduceIte, Nat.reduceEqDiff, reduceCtorEq, List.map_cons, List.map_nil, List.nil_append, List.append_nil, List.toList_toArray, c4]
    · simp only [↓evP, ↓tgP, ↓reduceIte, Nat.reduceEqDiff, reduceCtorEq, List.map_cons, List.map_nil, List.nil_append, List.append_nil, List.toList_toArray, c10]
    · simp only [↓evP, ↓tgP, ↓reduceIte, Nat.reduceEqDiff, reduceCtorEq, List.map_cons, List.map_nil, List.nil_append, List.append_nil, List.toList_toArray, c12]
    · simp only [↓evP, ↓tgP, ↓reduceIte, Nat.reduceEqDiff, reduceCtorEq, List.map_cons, List.map_nil, List.nil_append, List.append_nil, List.toList_toArray, c13]
    · simp only [↓evP, ↓tgP, ↓reduceIte, Nat.reduceEqDiff, reduceCtorEq, List.map_cons, List.map_nil, List.nil_append, List.append_nil, List.toList_toArray, c14]
    · simp only [↓evP, ↓tgP, ↓reduceIte, Nat.reduceEqDiff, reduceCtorEq, List.map_cons, List.map_nil, List.nil_append, List.append_nil, List.toList_toArray, c15]
    · simp only [↓evP, ↓tgP, ↓reduceIte, Nat.reduceEqDiff, reduceCtorEq, List.map_cons, List.map_nil, List.nil_append, List.append_nil, List.toList_toArray, c16]
  · have hge : decide ((x : Int) ≥ 16) = false := by simp; omega
    obtain ⟨cs2, hput, hl2, hd2⟩ := put_at (d := L.hexD x) hl (by omega) hd
    have hdg := dhL (x := x) (by omega)
    rw [L.hexU_small (u := x) (by omega)] at hw
    generalize hdd : L.hexD x = dd at hput hd2 hdg hw
    have hunk : 65 < unk := by decide
    have hcv : convV cx [(0, .cells cs2)] 104 9 (.msl 0 k (65 - k) (65 - k)) = some (.str (dd :: w)) := by
      have e : (cs2.drop k).take (65 - k) = u8s (dd :: w) := by
        rw [← hd2]; apply List.take_of_length_le; rw [List.length_drop, hl2]; omega
      simp only [convV, tyE, hget, beq_self_eq_true, if_true, e, toBytes_u8s]
      rw [if_pos ⟨by decide +kernel, by omega⟩]; rfl
    have ex := And.intro @c0 (And.intro @c1 (And.intro @c2 (And.intro @c3 (And.intro @c4 (And.intro @c10 (And.intro @c12 (And.intro @c13 (And.intro @c14 (And.intro @c15 (And.intro @c16 (And.intro @hpB (And.intro @zvB (And.intro @hge (And.intro @e1 (And.intro @hdg (And.intro @hunk @hcv))))))))))))))))
    have exd := @hput
    repeat' (first
     | (with_reducible refine isO ?_); first | refine mvA (h := ?_) | refine asA (h := ?_) | refine quA (h := ?_) | refine wnA (h := ?_) | refine waA (h := ?_)
     | (with_reducible refine isG ?_); first | refine stA (h := ?_) | refine srA (h := ?_) | refine swA (h := ?_) | refine s1A (h := ?_) | refine s0A (h := ?_) | refine sgA (h1 := fun _ => ?_) (h0 := fun _ => ?_) | refine sbA (h1 := fun _ => ?_) (h0 := fun _ => ?_)
     | (with_reducible refine isC ?_); first | refine ctA (h := ?_) | refine cfA (h := ?_) | refine cdA (h1 := fun _ => ?_) (h0 := fun _ => ?_) | refine cbA (h1 := fun _ => ?_) (h0 := fun _ => ?_)
     | with_reducible first | refine Ev.seq ?_ | refine Ev.ops ?_ | refine NxE ?_ | refine BxN ?_ | refine BxX ?_ | refine NxX ?_ | refine NxR ?_ | refine BxR ?_ | refine Ev.block ?_ | refine Ev.skip ?_ | refine Ev.exit ?_ | refine Ev.ret ?_ | refine EvOps.nil ?_ | refine EvPlan.nil ?_
     | (with_reducible refine BxO ?_ ?_; · decide)
     )
    refine lfA (rl := [.tmp 10, .tmp 11]) rfl (hv := by
      simp only [packV, strip, stripAgg, stripCell, List.map_cons, List.map_nil]
      first | (rw [hw]; rfl) | rfl) (hp := rfl)
end Go.Proofs.YtklcmgodhpediaaGreatDoor.P
/- Names of fields; numbers in hex. -/
namespace Go.Proofs.YtklcmgodhpediaaGreatDoor.P
open Go Go.Vm Go.Proofs Go.Proofs.YtklcmgodhpediaaGreatDoor

theorem fmtS (v : Nat) (hv : v < 18446744073709551616) (st : St) : FnS cx 144 [.int .u64 (v : Nat), .int .i64 16] st (.str (L.hexDigits v)) st := by
  have hb := bitsS v hv
  refine goP Tryz.func144 rfl rfl rfl rfl ?_ ?_
  · rfl
  intro t ht
  have a0 : tget t 0 = .int .u64 (v : Nat) := ht 0 _ rfl
  have a1 : tget t 1 = .int .i64 16 := ht 1 _ rfl
  clear ht
  have ex := And.intro @a0 (And.intro @a1 @hpB)
  repeat' (first
   | (with_reducible refine isO ?_); first | refine mvA (h := ?_) | refine asA (h := ?_) | refine quA (h := ?_) | refine caA (hc := (hb _)) (h := ?_)
   | (with_reducible refine isC ?_); first | refine ctA (h := ?_) | refine cfA (h := ?_) | refine cdA (h1 := fun _ => ?_) (h0 := fun _ => ?_) | refine cbA (h1 := fun _ => ?_) (h0 := fun _ => ?_)
   | with_reducible first | refine Ev.seq ?_ | refine Ev.ops ?_ | refine NxE ?_ | refine BxN ?_ | refine BxX ?_ | refine NxX ?_ | refine NxR ?_ | refine BxR ?_ | refine Ev.block ?_ | refine Ev.skip ?_ | refine Ev.exit ?_ | refine Ev.ret ?_ | refine EvOps.nil ?_ | refine EvPlan.nil ?_
   | (with_reducible refine BxO ?_ ?_; · decide)
   )
  refine lfA (rl := [.tmp 4]) rfl (hv := by
      simp only [packV, strip, stripAgg, stripCell, List.map_cons, List.map_nil]
      first | done | rfl) (hp := rfl)
theorem fmtUS (v : Nat) (hv : v < 18446744073709551616) (st : St) : FnS cx 90 [.int .u64 (v : Nat), .int .i64 16] st (.str (L.hexDigits v)) st := by
  have hb := fmtS v hv
  refine goP Tryz.func90 rfl rfl rfl rfl ?_ ?_
  · rfl
  intro t ht
  have a0 : tget t 0 = .int .u64 (v : Nat) := ht 0 _ rfl
  have a1 : tget t 1 = .int .i64 16 := ht 1 _ rfl
  clear ht
  have ex := And.intro @a0 (And.intro @a1 @hpB)
  repeat' (first
   | (with_reducible refine isO ?_); first | refine mvA (h := ?_) | refine asA (h := ?_) | refine quA (h := ?_) | refine caA (hc := (hb _)) (h := ?_)
   | (with_reducible refine isC ?_); first | refine ctA (h := ?_) | refine cfA (h := ?_) | refine cdA (h1 := fun _ => ?_) (h0 := fun _ => ?_) | refine cbA (h1 := fun _ => ?_) (h0 := fun _ => ?_)
   | with_reducible first | refine Ev.seq ?_ | refine Ev.ops ?_ | refine NxE ?_ | refine BxN ?_ | refine BxX ?_ | refine NxX ?_ | refine NxR ?_ | refine BxR ?_ | refine Ev.block ?_ | refine Ev.skip ?_ | refine Ev.exit ?_ | refine Ev.ret ?_ | refine EvOps.nil ?_ | refine EvPlan.nil ?_
   | (with_reducible refine BxO ?_ ?_; · decide)
   )
  refine lfA (rl := [.tmp 4]) rfl (hv := by
      simp only [packV, strip, stripAgg, stripCell, List.map_cons, List.map_nil]
      first | done | rfl) (hp := rfl)
theorem hexS (v : Nat) (hv : v < 18446744073709551616) (st : St) : FnS cx 66 [.int .u64 (v : Nat)] st (.str (K.hexT v)) st := by
  have hb := fmtUS v hv
  have hl := L.hexU_length v 15 (by omega)
  have hl2 : (L.hexDigits v).length + 2 ≤ 4611686018427387904 := by omega
  have he : K.hexT v = 48 :: 120 :: L.hexDigits v := rfl
  rw [he]
  generalize L.hexDigits v = w at hb hl hl2
  refine goP Tryz.func66 rfl rfl rfl rfl ?_ ?_
  · rfl
  intro t ht
  have a0 : tget t 0 = .int .u64 (v : Nat) := ht 0 _ rfl
  clear ht
  have ex := And.intro @a0 @hpB
  repeat' (first
   | (with_reducible refine isO ?_); first | refine mvA (h := ?_) | refine asA (h := ?_) | refine quA (h := ?_) | refine caA (hc := (hb _)) (h := ?_)
   | (with_reducible refine isC ?_); first | refine ctA (h := ?_) | refine cfA (h := ?_) | refine cdA (h1 := fun _ => ?_) (h0 := fun _ => ?_) | refine cbA (h1 := fun _ => ?_) (h0 := fun _ => ?_)
   | with_reducible first | refine Ev.seq ?_ | refine Ev.ops ?_ | refine NxE ?_ | refine BxN ?_ | refine BxX ?_ | refine NxX ?_ | refine NxR ?_ | refine BxR ?_ | refine Ev.block ?_ | refine Ev.skip ?_ | refine Ev.exit ?_ | refine Ev.ret ?_ | refine EvOps.nil ?_ | refine EvPlan.nil ?_
   | (with_reducible refine BxO ?_ ?_; · decide)
   )
  refine lfA (rl := [.tmp 2]) rfl (hv := by
      simp only [packV, strip, stripAgg, stripCell, List.map_cons, List.map_nil]
      first | done | rfl) (hp := rfl)
def nmL : List (List UInt8) := [[], [101, 116, 104, 46, 100, 115, 116], [101, 116, 104, 46, 115, 114, 99], [101, 116, 104, 46, 116, 121, 112, 101], [118, 108, 97, 110, 46, 116, 97, 103], [97, 114, 112, 46, 111, 112], [97, 114, 112, 46, 115, 104, 97], [97, 114, 112, 46, 115, 112, 97], [97, 114, 112, 46, 116, 104, 97], [97, 114, 112, 46, 116, 112, 97], [105, 112, 52, 46, 115, 114, 99], [105, 112, 52, 46, 100, 115, 116], [105, 112, 46, 112, 114, 111, 116, 111], [105, 112, 46, 116, 116, 108], [105, 112, 46, 116, 111, 115], [105, 112, 46, 102, 114, 97, 103], [105, 99, 109, 112, 46, 116, 121, 112, 101], [105, 99, 109, 112, 46, 99, 111, 100, 101], [116, 112, 46, 115, 114, 99], [116, 112, 46, 100, 115, 116], [116, 99, 112, 46, 102, 108, 97, 103, 115], [99, 116, 46, 115, 116, 97, 116, 101], [100, 97, 116, 97, 112, 97, 116, 104], [105, 110, 112, 111, 114, 116], [111, 117, 116, 112, 111, 114, 116], [114, 101, 103, 48], [114, 101, 103, 49], [114, 101, 103, 50], [114, 101, 103, 51]]
def nmT (f : Int) : List UInt8 := nmL.getD f.toNat []
theorem nameS (f : Int) (h1 : 1 ≤ f) (h2 : f ≤ 28) (st : St) : FnS cx 65 [.int .i64 f] st (.str (nmT f)) st := by
  have h : f = 1 ∨ f = 2 ∨ f = 3 ∨ f = 4 ∨ f = 5 ∨ f = 6 ∨ f = 7 ∨ f = 8 ∨ f = 9 ∨ f = 10 ∨ f = 11 ∨ f = 12 ∨ f = 13 ∨ f = 14 ∨ f = 15 ∨ f = 16 ∨ f = 17 ∨ f = 18 ∨ f = 19 ∨ f = 20 ∨ f = 21 ∨ f = 22 ∨ f = 23 ∨ f = 24 ∨ f = 25 ∨ f = 26 ∨ f = 27 ∨ f = 28 := by omega
  rcases h with rfl | rfl | rfl | rfl | rfl | rfl | rfl | rfl | rfl | rfl | rfl | rfl | rfl | rfl | rfl | rfl | rfl | rfl | rfl | rfl | rfl | rfl | rfl | rfl | rfl | rfl | rfl | rfl
  all_goals exact ⟨Fn.ofG (n := 100) (by kernel_rfl) ⟨rfl, rfl⟩⟩
theorem refNameS (f : Int) (h1 : 1 ≤ f) (h2 : f ≤ 28) (st : St) : FnS cx 38 [.int .i64 f] st (.str (nmT f)) st := by
  have h : f = 1 ∨ f = 2 ∨ f = 3 ∨ f = 4 ∨ f = 5 ∨ f = 6 ∨ f = 7 ∨ f = 8 ∨ f = 9 ∨ f = 10 ∨ f = 11 ∨ f = 12 ∨ f = 13 ∨ f = 14 ∨ f = 15 ∨ f = 16 ∨ f = 17 ∨ f = 18 ∨ f = 19 ∨ f = 20 ∨ f = 21 ∨ f = 22 ∨ f = 23 ∨ f = 24 ∨ f = 25 ∨ f = 26 ∨ f = 27 ∨ f = 28 := by omega
  rcases h with rfl | rfl | rfl | rfl | rfl | rfl | rfl | rfl | rfl | rfl | rfl | rfl | rfl | rfl | rfl | rfl | rfl | rfl | rfl | rfl | rfl | rfl | rfl | rfl | rfl | rfl | rfl | rfl
  all_goals exact ⟨Fn.ofG (n := 100) (by kernel_rfl) ⟨rfl, rfl⟩⟩
theorem wordS (f : Int) (h1 : 1 ≤ f) (h2 : f ≤ 28) (st : St) : FnS cx 105 [.str (nmT f)] st (.tup [.agg [.int .i64 0, .int .i64 0, .int .i64 0, .int .u64 0, .int .u64 0, .sl .none []], .bool false]) st := by
  have h : f = 1 ∨ f = 2 ∨ f = 3 ∨ f = 4 ∨ f = 5 ∨ f = 6 ∨ f = 7 ∨ f = 8 ∨ f = 9 ∨ f = 10 ∨ f = 11 ∨ f = 12 ∨ f = 13 ∨ f = 14 ∨ f = 15 ∨ f = 16 ∨ f = 17 ∨ f = 18 ∨ f = 19 ∨ f = 20 ∨ f = 21 ∨ f = 22 ∨ f = 23 ∨ f = 24 ∨ f = 25 ∨ f = 26 ∨ f = 27 ∨ f = 28 := by omega
  rcases h with rfl | rfl | rfl | rfl | rfl | rfl | rfl | rfl | rfl | rfl | rfl | rfl | rfl | rfl | rfl | rfl | rfl | rfl | rfl | rfl | rfl | rfl | rfl | rfl | rfl | rfl | rfl | rfl
  all_goals exact ⟨Fn.ofG (n := 100) (by kernel_rfl) ⟨rfl, rfl⟩⟩
end Go.Proofs.YtklcmgodhpediaaGreatDoor.P
