/- A run: what is sent. -/
import Derived.Test.YtbgalenfbmaceaaGreatDoorDeV16
set_option linter.unusedSimpArgs false
set_option linter.unusedVariables false
set_option maxRecDepth 1000000
namespace Go.Proofs.YtbgalenfbmaceaaGreatDoor.D
open Go Go.Vm Go.Proofs Go.Proofs.YtbgalenfbmaceaaGreatDoor

noncomputable def z38 : List V := match zeroV cw 38 with | some (.agg cs) => cs | _ => []
theorem zv38 : zeroV cw 38 = some (.agg z38) := by rfl
theorem z38l : z38.length = 49 := by rfl
theorem bd62 {cs : List V} (h : cs.length = 49) (b : Bool) (i : Int) : buildV cw 62 [(0, .bool b), (1, .int .i64 i), (2, .agg cs)] = some (.agg (.bool b :: .int .i64 i :: cs)) := by
  have e1 : cw.P.underlying 62 = some _ := tyX.2.2.2.1
  obtain ⟨zs, hz, hl⟩ : ∃ zs, zeroV cw 62 = some (.agg zs) ∧ zs.length = 51 := ⟨_, by rfl, by rfl⟩
  have e2 : placesV cw [{ name := "Tunnel", type := 4, offset := 0, embedded := false, tag := "", pkgPath := "", byteOffset := 0 }, { name := "Port", type := 3, offset := 1, embedded := false, tag := "", pkgPath := "", byteOffset := 8 }, { name := "State", type := 38, offset := 2, embedded := false, tag := "", pkgPath := "", byteOffset := 16 }] = some [(0, 1), (1, 1), (2, 49)] := by decide +kernel
  simp only [buildV, e1, hz, e2, fillV, cellsOf]
  match zs, hl with
  | z0 :: z1 :: zr, hl =>
    have hr : zr.length = 49 := by simpa using hl
    simp [putAt, h, hr]
theorem bs57 {cs : List V} (h : cs.length = 49) (hs : cs.map stripCell = cs) : buildSliceV cw 57 1 [(0, .agg (.bool false :: .int .i64 7 :: cs))] = some (.sl .full [.agg (.bool false :: .int .i64 7 :: cs)]) := by
  have e1 : cw.P.underlying 57 = some (.slice 62) := by rfl
  have e2 : szOf cw 62 = some 51 := by decide +kernel
  obtain ⟨zs, hz, hl⟩ : ∃ zs, zeroV cw 62 = some (.agg zs) ∧ zs.length = 51 := ⟨_, by rfl, by rfl⟩
  simp only [buildSliceV, e1, e2, hz]
  simp [isElem, ncells, hl, h, setAll, stripAgg, stripCell, hs]
theorem ap57 {cs : List V} (h : cs.length = 49) (hs : cs.map stripCell = cs) (H : List (Nat × Ob)) (n : Nat) (u : Tip) : appendV cw ⟨H, n⟩ 57 (.sl .full []) (.sl u [.agg (.bool false :: .int .i64 7 :: cs)]) = some (.sl (.own n) [.agg (.bool false :: .int .i64 7 :: cs)], ⟨(n, .tip 51) :: H, n + 1⟩) := by
  have e : cw.P.underlying 57 = some (.slice 62) := by rfl
  have e2 : szOf cw 62 = some 51 := by decide +kernel
  have e3 : zeroOk cw 62 51 = true := by decide +kernel
  have e4 : byOf cw 62 ≤ 100000 := by decide +kernel
  have e5 : (0 + 1) * byOf cw 62 ≤ 2 ^ 47 := by omega
  have e6 : cw.mutT 57 = false := by rfl
  simp only [appendV, e, e2, addedV]
  simp [szOk, e3, e5, stripAgg, stripCell, ncells, h, hs, e6]
  omega
theorem ap57b {cs : List V} (h : cs.length = 49) (hs : cs.map stripCell = cs) {xs : List V} (hx : szOk 51 xs = true) (hl : xs.length ≤ 4096) (H : List (Nat × Ob)) (n b : Nat) (u : Tip) (hb : hget H b = some (.tip 51)) : appendV cw ⟨H, n⟩ 57 (.sl (.own b) xs) (.sl u [.agg (.bool false :: .int .i64 7 :: cs)]) = some (.sl (.own n) (xs ++ [.agg (.bool false :: .int .i64 7 :: cs)]), ⟨(n, .tip 51) :: hdel H b, n + 1⟩) := by
  have e : cw.P.underlying 57 = some (.slice 62) := by rfl
  have e2 : szOf cw 62 = some 51 := by decide +kernel
  have e3 : zeroOk cw 62 51 = true := by decide +kernel
  have e4 : byOf cw 62 ≤ 100000 := by decide +kernel
  have e5 : (xs.length + 1) * byOf cw 62 ≤ 2 ^ 47 := by
    have : (xs.length + 1) * byOf cw 62 ≤ 4097 * 100000 := Nat.mul_le_mul (by omega) e4
    omega
  have e6 : xs.length + 1 ≤ 2 ^ 47 := by omega
  have e7 : szOk 51 [.agg (.bool false :: .int .i64 7 :: cs)] = true := by simp [szOk, ncells, h]
  have e8 : [.agg (.bool false :: .int .i64 7 :: cs)].map stripAgg = [.agg (.bool false :: .int .i64 7 :: cs)] := by simp [stripAgg, stripCell, hs]
  simp only [appendV, e, e2, addedV, e7, if_true, hb]
  rw [if_neg (by simp), if_pos ⟨by omega, hx, e3, by simpa using e5, by simpa using e6⟩, e8]

set_option maxHeartbeats 8000000 in
theorem oneG {H H0 : List (Nat × Ob)} {n r pt tt : Nat} {S goes over : V} {xs : List V} {cs : List V} (hcs : cs.length = 49) (hst : cs.map stripCell = cs) (hw : hdrop n H = H) (l5 : r < n) (hr : hget H r = some (.cells [.ptr pt 0, .ptr tt 0, S, goes, over])) (hr0 : hget H0 r = some (.cells [.ptr pt 0, .ptr tt 0, S, goes, over]))
    (hx : ∀ u, appendV cw ⟨(n + 1 + 1, .cells z38) :: (n + 1, .cells cs) :: (n, .cells [.int .i64 6, .int .i64 0, .int .i64 0, .int .u64 0, .int .u64 0, .int .i64 0, .int .i64 7, .sl .full [], .sl .full [], .int .u64 0, .int .u32 0, .int .u32 0, .int .u32 0, .int .u32 0, .int .u32 0]) :: H, n + 1 + 1 + 1⟩ 57 S (.sl u [.agg (.bool false :: .int .i64 7 :: cs)]) = some (.sl (.own (n + 1 + 1 + 1)) xs, ⟨(n + 1 + 1 + 1, .tip 51) :: (n + 1 + 1, .cells z38) :: (n + 1, .cells cs) :: (n, .cells [.int .i64 6, .int .i64 0, .int .i64 0, .int .u64 0, .int .u64 0, .int .i64 0, .int .i64 7, .sl .full [], .sl .full [], .int .u64 0, .int .u32 0, .int .u32 0, .int .u32 0, .int .u32 0, .int .u32 0]) :: H0, n + 1 + 1 + 1 + 1⟩)) :
    FnS cw 29 [.ptr r 0, actOutF, .agg cs] ⟨H, n⟩ (.tup [.agg cs, .bool true]) ⟨(n + 1 + 1 + 1, .tip 51) :: hset H0 r (.cells [.ptr pt 0, .ptr tt 0, .sl (.own (n + 1 + 1 + 1)) xs, goes, over]), n + 1 + 1 + 1 + 1⟩ := by
  have ht49 : cs.take 49 = cs := List.take_of_length_le (by omega)
  have hdz : z38.drop 49 = [] := List.drop_eq_nil_of_le (by rw [z38l]; omega)
  have han := List.append_nil cs
  have hbd := bd62 hcs
  have hbs := bs57 hcs hst
  have zl := z38l
  refine FnS.sub (H := (n + 1 + 1 + 1, .tip 51) :: (n + 1 + 1, .cells cs) :: (n + 1, .cells cs) :: (n, .cells [.int .i64 6, .int .i64 0, .int .i64 0, .int .u64 0, .int .u64 0, .int .i64 0, .int .i64 7, .sl .full [], .sl .full [], .int .u64 0, .int .u32 0, .int .u32 0, .int .u32 0, .int .u32 0, .int .u32 0]) :: hset H0 r (.cells [.ptr pt 0, .ptr tt 0, .sl (.own (n + 1 + 1 + 1)) xs, goes, over])) ?_ (.cons_cons _ (.cons _ (.cons _ (.cons _ (.refl _)))))
  refine goS Tryz.func29 rfl rfl rfl rfl ?_
  intro t ht
  have a0 : tget t 0 = .ptr r 0 := ht 0 _ rfl
  have a1 : tget t 1 = .agg [.int .i64 6, .int .i64 0, .int .i64 0, .int .u64 0, .int .u64 0, .int .i64 0, .int .i64 7, .sl .full [], .sl .full [], .int .u64 0, .int .u32 0, .int .u32 0, .int .u32 0, .int .u32 0, .int .u32 0] := ht 1 _ rfl
  have a2 : tget t 2 = .agg cs := ht 2 _ rfl
  clear ht
  have ex := And.intro @a0 (And.intro @a1 (And.intro @a2 (And.intro @hr (And.intro @hr0 (And.intro @ht49 (And.intro @hdz (And.intro @han (And.intro @hbd (And.intro @hbs (And.intro @zl (And.intro @hcs (And.intro @hpB (And.intro @hpE (And.intro @hpA (And.intro @zvE @zv38)))))))))))))))
  have exd := @hx
  repeat' (first
   | (with_reducible refine isO ?_); first | refine mvA (h := ?_) | refine asA (h := ?_) | refine quA (h := ?_) | refine wnA (h := ?_)
   | (with_reducible refine isP ?_); first | refine dqA (h := ?_) | refine dnA (i := 6) (l := [4]) (h := ?_) | refine dwA (i := 13) (l := []) (h := ?_) | refine dnA (i := 16) (l := []) (h := ?_) | refine dnA (i := 5) (l := []) (h := ?_)
   | (with_reducible refine isC ?_); first | refine ctA (h := ?_) | refine cfA (h := ?_) | refine cdA (h1 := fun _ => ?_) (h0 := fun _ => ?_) | refine cbA (h1 := fun _ => ?_) (h0 := fun _ => ?_)
   | (with_reducible refine isR ?_); first
     | refine Ev.drawn (by decide +kernel) (l := [0, 1, 2, 3, 4, 5, 6, 7]) (by decide +kernel) ?_
     | refine Ev.drawn (by decide +kernel) (l := [0, 1, 2, 3, 4, 5, 6, 7, 8, 9, 10, 11, 12, 13, 14, 15, 16]) (by decide +kernel) ?_
     | refine Ev.drawn (by decide +kernel) (l := [0, 1, 2, 3, 4, 5, 6]) (by decide +kernel) ?_
   | with_reducible first | refine Ev.seq ?_ | refine Ev.ops ?_ | refine NxE ?_ | refine BxN ?_ | refine BxX ?_ | refine NxX ?_ | refine NxR ?_ | refine BxR ?_ | refine Ev.block ?_ | refine Ev.skip ?_ | refine Ev.exit ?_ | refine Ev.ret ?_ | refine EvOps.nil ?_ | refine EvPlan.nil ?_
   | (with_reducible refine BxO ?_ ?_; · decide)
   )
  all_goals refine lsA (rl := [.cell 6 38, .tmp 7]) rfl (hv := by
      simp only [leaveV, packV, strip, stripAgg, stripCell, List.map_cons, List.map_nil, show cw.grow 29 = true from rfl, show cw.keep 29 = true from rfl, show cw.frz 29 = false from rfl, if_false, if_true, Bool.false_eq_true]
      (try simp (disch := omega) only [hpW, hpA, hw, hpE])
      first | done | rfl)
end Go.Proofs.YtbgalenfbmaceaaGreatDoor.D
