/- The law of two tables that send a State to and fro: the walk. -/
import Derived.Test.YtbgalenfbmaceaaGreatDoorDeV20
import Derived.Test.YtbgalenfbmaceaaGreatDoorDeV12
import Derived.Test.YtbgalenfbmaceaaGreatDoorDeV5a
import Derived.Test.YtbgalenfbmaceaaGreatDoorDeV5b
set_option linter.unusedSimpArgs false
set_option linter.unusedVariables false
set_option maxRecDepth 1000000
namespace Go.Proofs.YtbgalenfbmaceaaGreatDoor.D
open Go Go.Vm Go.Proofs Go.Proofs.YtbgalenfbmaceaaGreatDoor

def hpN (x y : Int) (ax ay bx by' c0 : List V) (kx ky : List UInt8) : List (Nat × Ob) := [(26, .cells [.sl .full [], .map 25, .int .i64 1]), (25, .map [(.str [], .sl (.own 28) [.agg [.int .i64 0, .sl .none [], .int .i64 2]])]), (22, .cells [.map 20, .map 21]), (20, .map [(.str [], .ptr 26 0)]), (19, .tip 1), (18, .tip 4), (17, .cells [.int .i64 y, .int .i64 0, .sl .none [], .sl .none by']), (16, .cells [.int .i64 y, .int .i64 0, .sl .none [], .sl .none ay, .str ky]), (13, .cells [.sl .full [], .map 12, .int .i64 1]), (12, .map [(.str [], .sl (.own 15) [.agg [.int .i64 0, .sl .none [], .int .i64 1]])]), (9, .cells [.map 7, .map 8]), (7, .map [(.str [], .ptr 13 0)]), (4, .cells [.int .i64 x, .int .i64 0, .sl .none [], .sl .none bx]), (3, .cells [.int .i64 x, .int .i64 0, .sl .none [], .sl .none ax, .str kx]), (2, .cells [.sl (.own 18) [.agg [.int .i64 x, .int .i64 0, .sl .none [], .sl .none bx], .agg [.int .i64 y, .int .i64 0, .sl .none [], .sl .none by']], .sl (.own 19) [.str kx, .str ky], .map 1]), (1, .map [(.int .i64 x, .ptr 9 0), (.int .i64 y, .ptr 22 0)]), (0, .cells c0)]
def hpP (x y : Int) (bx by' : List V) (kx ky : List UInt8) : List (Nat × Ob) := [(26, .cells [.sl .full [], .map 25, .int .i64 1]), (25, .map [(.str [], .sl (.own 28) [.agg [.int .i64 0, .sl .none [], .int .i64 2]])]), (22, .cells [.map 20, .map 21]), (20, .map [(.str [], .ptr 26 0)]), (13, .cells [.sl .full [], .map 12, .int .i64 1]), (12, .map [(.str [], .sl (.own 15) [.agg [.int .i64 0, .sl .none [], .int .i64 1]])]), (9, .cells [.map 7, .map 8]), (7, .map [(.str [], .ptr 13 0)]), (2, .cells [.sl (.own 18) [.agg [.int .i64 x, .int .i64 0, .sl .none [], .sl .none bx], .agg [.int .i64 y, .int .i64 0, .sl .none [], .sl .none by']], .sl (.own 19) [.str kx, .str ky], .map 1]), (1, .map [(.int .i64 x, .ptr 9 0), (.int .i64 y, .ptr 22 0)])]
theorem hpP_plain (x y : Int) (bx by' : List V) (kx ky : List UInt8) : Plain (hpP x y bx by' kx ky) := fun p hp => by
  simp only [hpP, List.mem_cons, List.not_mem_nil, or_false] at hp
  rcases hp with rfl | rfl | rfl | rfl | rfl | rfl | rfl | rfl | rfl | rfl
  all_goals exact ⟨by simp, fun z h => by cases h⟩
theorem hpP_keeps (x y : Int) (ax ay bx by' c0 : List V) (kx ky : List UInt8) : Keeps (hpP x y bx by' kx ky) (hpN x y ax ay bx by' c0 kx ky) := fun p hp => by
  simp only [hpP, List.mem_cons, List.not_mem_nil, or_false] at hp
  rcases hp with rfl | rfl | rfl | rfl | rfl | rfl | rfl | rfl | rfl | rfl
  all_goals rfl
theorem hpN_lt (x y : Int) (ax ay bx by' c0 : List V) (kx ky : List UInt8) : LT 29 (hpN x y ax ay bx by' c0 kx ky) := fun p hp => by
  simp only [hpN, List.mem_cons, List.not_mem_nil, or_false] at hp
  rcases hp with rfl | rfl | rfl | rfl | rfl | rfl | rfl | rfl | rfl | rfl | rfl | rfl | rfl | rfl | rfl | rfl | rfl
  all_goals simp
theorem fv1b {x y : Int} (p q : V) : findV (.int .i64 x) [(.int .i64 x, p), (.int .i64 y, q)] = some (some p) := by simp [findV, eqCell]
theorem findsX {x y : Int} (hne : x ≠ y) {bx by' cs : List V} {kx ky : List UInt8} (hcs : cs.length = 49) : FindsAll (hpP x y bx by' kx ky) cs 31 x (.sl .none bx) := fun H n S goes hK hn hlt hr => by
  have mem : ∀ p ∈ hpP x y bx by' kx ky, hget H p.1 = some p.2 := hK
  simp only [hpP, List.forall_mem_cons] at mem
  obtain ⟨e26, e25, e22, e20, e13, e12, e9, e7, e2, e1, _⟩ := mem
  exact foundA hcs hlt.drop hr e2 e1 (fv1b _ _) e9 e7 e13 e12 (by omega) (by omega) (by omega) (by omega) (by omega) (by omega) (by omega) (by omega) (by omega) (by omega)
theorem findsY {x y : Int} (hne : x ≠ y) {bx by' cs : List V} {kx ky : List UInt8} (hcs : cs.length = 49) : FindsAll (hpP x y bx by' kx ky) cs 31 y (.sl .none by') := fun H n S goes hK hn hlt hr => by
  have mem : ∀ p ∈ hpP x y bx by' kx ky, hget H p.1 = some p.2 := hK
  simp only [hpP, List.forall_mem_cons] at mem
  obtain ⟨e26, e25, e22, e20, e13, e12, e9, e7, e2, e1, _⟩ := mem
  exact foundB hcs hlt.drop hr e2 e1 (fv2 hne _ _) e22 e20 e26 e25 (by omega) (by omega) (by omega) (by omega) (by omega) (by omega) (by omega) (by omega) (by omega) (by omega)
theorem newct (H : List (Nat × Ob)) (hw : hdrop 29 H = H) : FnS cw 6 [.int .i64 1] ⟨H, 29⟩ (.tup [.ptr 31 0, .int .i64 0]) ⟨H, 32⟩ := by
  have h : FnS cw 6 [.int .i64 1] ⟨H, 29⟩ (.tup [.ptr 31 0, .int .i64 0]) ⟨hdrop 29 H, 32⟩ := ⟨Vm.Fn.ofG (n := 20) (by kernel_rfl) ⟨rfl, rfl⟩⟩
  rw [hw] at h; exact h
theorem lawNew {a b : Nat} (ha : a < 64) (hb : b < 64) (hne : a ≠ b) {cs : List V} (hcs : cs.length = 49) (hst : cs.map stripCell = cs) : ∃ H2, FnS cw 5 [(.sl .full [.agg [.int .i64 (a : Nat), .int .i64 0, .sl .none [], .sl .none [.agg [.int .i64 4, .int .i64 0, .int .i64 0, .int .u64 0, .int .u64 0, .int .i64 (b : Nat), .int .i64 0, .sl .none [], .sl .none [], .int .u64 0, .int .u32 0, .int .u32 0, .int .u32 0, .int .u32 0, .int .u32 0]]], .agg [.int .i64 (b : Nat), .int .i64 0, .sl .none [], .sl .none [.agg [.int .i64 5, .int .i64 0, .int .i64 0, .int .u64 0, .int .u64 0, .int .i64 0, .int .i64 0, .sl .none [.agg [.int .i64 6, .int .i64 0, .int .i64 0, .int .u64 0, .int .u64 0, .int .i64 0, .int .i64 7, .sl .none [], .sl .none [], .int .u64 0, .int .u32 0, .int .u32 0, .int .u32 0, .int .u32 0, .int .u32 0]], .sl .none [], .int .u64 0, .int .u32 0, .int .u32 0, .int .u32 0, .int .u32 0, .int .u32 0], .agg [.int .i64 4, .int .i64 0, .int .i64 0, .int .u64 0, .int .u64 0, .int .i64 (a : Nat), .int .i64 0, .sl .none [], .sl .none [], .int .u64 0, .int .u32 0, .int .u32 0, .int .u32 0, .int .u32 0, .int .u32 0]]]])] ⟨[(0, .cells cs)], 1⟩ (.tup [.ptr 2 0, .int .i64 0]) ⟨H2, 29⟩ ∧ LT 29 H2 ∧ hget H2 0 = some (.cells cs) ∧ Vm.Fn cw 7 [.ptr 2 0, .ptr 31 0, .int .i64 (a : Nat), .agg cs] ⟨H2, 32⟩ (fun v st' => ∃ xs, xs.length = 2048 ∧ v = .tup [.sl .none xs, .int .i64 4096, .int .i64 130]) := by
  rcases Nat.lt_or_gt_of_ne hne with h | h
  · have h1 := newG (x := (a : Nat)) (y := (b : Nat)) (ax := [actGo (b : Nat)]) (ay := [actClone, actGo (a : Nat)]) (bx := [actGoF (b : Nat)]) (by' := [actClone', actGoF (a : Nat)]) (c0 := cs) (kx := keyT a) (ky := keyT b) (by omega) (placeLt a b ha hb h) (copiedA (a : Nat) b hb) (copiedB (b : Nat) a ha)
    refine ⟨_, h1, hpN_lt _ _ _ _ _ _ _ _ _, rfl, ?_⟩
    exact runG (B := hpP (a : Nat) (b : Nat) [actGoF (b : Nat)] [actClone', actGoF (a : Nat)] (keyT a) (keyT b)) (x := (a : Nat)) (y := (b : Nat)) (by omega) hcs hst (hpP_plain _ _ _ _ _ _) (hpP_keeps _ _ _ _ _ _ _ _ _) ((hpN_lt _ _ _ _ _ _ _ _ _).le (by omega)) rfl (findsX (by omega) hcs) (findsY (by omega) hcs)
  · have h1 := newG (x := (b : Nat)) (y := (a : Nat)) (ax := [actClone, actGo (a : Nat)]) (ay := [actGo (b : Nat)]) (bx := [actClone', actGoF (a : Nat)]) (by' := [actGoF (b : Nat)]) (c0 := cs) (kx := keyT b) (ky := keyT a) (by omega) (placeGt a b ha hb h) (copiedB (b : Nat) a ha) (copiedA (a : Nat) b hb)
    refine ⟨_, h1, hpN_lt _ _ _ _ _ _ _ _ _, rfl, ?_⟩
    exact runG (B := hpP (b : Nat) (a : Nat) [actClone', actGoF (a : Nat)] [actGoF (b : Nat)] (keyT b) (keyT a)) (x := (a : Nat)) (y := (b : Nat)) (by omega) hcs hst (hpP_plain _ _ _ _ _ _) (hpP_keeps _ _ _ _ _ _ _ _ _) ((hpN_lt _ _ _ _ _ _ _ _ _).le (by omega)) rfl (findsY (by omega) hcs) (findsX (by omega) hcs)
theorem livesT (st : St) : FnS cw 4 [] st (.bool true) st := by
  have h0 : Vm.Fn cy 4 [] ⟨[], 0⟩ fun v _ => pureV v = true ∧ v = .bool true := by
    have hr := lives_run
    cases hc : callF cy 400 4 [] ⟨[], 0⟩ with
    | none => rw [hc] at hr; cases hr
    | some p =>
      rw [hc] at hr
      obtain ⟨v, st'⟩ := p
      obtain rfl : v = .bool true := Option.some.inj hr
      exact Fn.ofF hc ⟨rfl, rfl⟩
  have h1 : Vm.Fn cw 4 [] ⟨[], 0⟩ fun v _ => pureV v = true ∧ v = .bool true := Vm.Fn.tr h0 cy_ok cy_glob cy_x rfl rfl rfl rfl
  refine ⟨⟨fun a b c => freshS_sound (args := []) a b ?_ rfl⟩⟩
  exact (h1.ex a b c).mono fun v st' hq => ⟨hq.1, hq.2, rfl⟩
theorem bdL : (∀ t, buildV cw 49 [(0, .int .i64 4), (5, .int .i64 t)] = some (.agg [.int .i64 4, .int .i64 0, .int .i64 0, .int .u64 0, .int .u64 0, .int .i64 t, .int .i64 0, .sl .full [], .sl .full [], .int .u64 0, .int .u32 0, .int .u32 0, .int .u32 0, .int .u32 0, .int .u32 0])) ∧ buildV cw 49 [(0, .int .i64 6), (6, .int .i64 7)] = some (.agg [.int .i64 6, .int .i64 0, .int .i64 0, .int .u64 0, .int .u64 0, .int .i64 0, .int .i64 7, .sl .full [], .sl .full [], .int .u64 0, .int .u32 0, .int .u32 0, .int .u32 0, .int .u32 0, .int .u32 0]) ∧ buildV cw 49 [(0, .int .i64 5), (7, .sl .full [.agg [.int .i64 6, .int .i64 0, .int .i64 0, .int .u64 0, .int .u64 0, .int .i64 0, .int .i64 7, .sl .none [], .sl .none [], .int .u64 0, .int .u32 0, .int .u32 0, .int .u32 0, .int .u32 0, .int .u32 0]])] = some (.agg [.int .i64 5, .int .i64 0, .int .i64 0, .int .u64 0, .int .u64 0, .int .i64 0, .int .i64 0, .sl .full [.agg [.int .i64 6, .int .i64 0, .int .i64 0, .int .u64 0, .int .u64 0, .int .i64 0, .int .i64 7, .sl .none [], .sl .none [], .int .u64 0, .int .u32 0, .int .u32 0, .int .u32 0, .int .u32 0, .int .u32 0]], .sl .full [], .int .u64 0, .int .u32 0, .int .u32 0, .int .u32 0, .int .u32 0, .int .u32 0]) ∧ (∀ x l, buildV cw 52 [(0, .int .i64 x), (3, .sl .full l)] = some (.agg [.int .i64 x, .int .i64 0, .sl .full [], .sl .full l])) := ⟨fun _ => by rfl, by rfl, by rfl, fun _ _ => by rfl⟩
theorem bsL : (∀ t, buildSliceV cw 44 1 [(0, .agg [.int .i64 4, .int .i64 0, .int .i64 0, .int .u64 0, .int .u64 0, .int .i64 t, .int .i64 0, .sl .full [], .sl .full [], .int .u64 0, .int .u32 0, .int .u32 0, .int .u32 0, .int .u32 0, .int .u32 0])] = some (.sl .full [.agg [.int .i64 4, .int .i64 0, .int .i64 0, .int .u64 0, .int .u64 0, .int .i64 t, .int .i64 0, .sl .none [], .sl .none [], .int .u64 0, .int .u32 0, .int .u32 0, .int .u32 0, .int .u32 0, .int .u32 0]])) ∧ buildSliceV cw 44 1 [(0, .agg [.int .i64 6, .int .i64 0, .int .i64 0, .int .u64 0, .int .u64 0, .int .i64 0, .int .i64 7, .sl .full [], .sl .full [], .int .u64 0, .int .u32 0, .int .u32 0, .int .u32 0, .int .u32 0, .int .u32 0])] = some (.sl .full [.agg [.int .i64 6, .int .i64 0, .int .i64 0, .int .u64 0, .int .u64 0, .int .i64 0, .int .i64 7, .sl .none [], .sl .none [], .int .u64 0, .int .u32 0, .int .u32 0, .int .u32 0, .int .u32 0, .int .u32 0]]) ∧ (∀ t, buildSliceV cw 44 2 [(0, .agg [.int .i64 5, .int .i64 0, .int .i64 0, .int .u64 0, .int .u64 0, .int .i64 0, .int .i64 0, .sl .full [.agg [.int .i64 6, .int .i64 0, .int .i64 0, .int .u64 0, .int .u64 0, .int .i64 0, .int .i64 7, .sl .none [], .sl .none [], .int .u64 0, .int .u32 0, .int .u32 0, .int .u32 0, .int .u32 0, .int .u32 0]], .sl .full [], .int .u64 0, .int .u32 0, .int .u32 0, .int .u32 0, .int .u32 0, .int .u32 0]), (1, .agg [.int .i64 4, .int .i64 0, .int .i64 0, .int .u64 0, .int .u64 0, .int .i64 t, .int .i64 0, .sl .full [], .sl .full [], .int .u64 0, .int .u32 0, .int .u32 0, .int .u32 0, .int .u32 0, .int .u32 0])] = some (.sl .full [.agg [.int .i64 5, .int .i64 0, .int .i64 0, .int .u64 0, .int .u64 0, .int .i64 0, .int .i64 0, .sl .none [.agg [.int .i64 6, .int .i64 0, .int .i64 0, .int .u64 0, .int .u64 0, .int .i64 0, .int .i64 7, .sl .none [], .sl .none [], .int .u64 0, .int .u32 0, .int .u32 0, .int .u32 0, .int .u32 0, .int .u32 0]], .sl .none [], .int .u64 0, .int .u32 0, .int .u32 0, .int .u32 0, .int .u32 0, .int .u32 0], .agg [.int .i64 4, .int .i64 0, .int .i64 0, .int .u64 0, .int .u64 0, .int .i64 t, .int .i64 0, .sl .none [], .sl .none [], .int .u64 0, .int .u32 0, .int .u32 0, .int .u32 0, .int .u32 0, .int .u32 0]])) ∧ (∀ x y l m, buildSliceV cw 53 2 [(0, .agg [.int .i64 x, .int .i64 0, .sl .full [], .sl .full l]), (1, .agg [.int .i64 y, .int .i64 0, .sl .full [], .sl .full m])] = some (.sl .full [.agg [.int .i64 x, .int .i64 0, .sl .none [], .sl .none l], .agg [.int .i64 y, .int .i64 0, .sl .none [], .sl .none m]])) := ⟨fun _ => by rfl, by rfl, fun _ => by rfl, fun _ _ _ _ => by rfl⟩

set_option maxHeartbeats 8000000 in
theorem lawGood {a b : Nat} (ha : a < 64) (hb : b < 64) (hne : a ≠ b) {cs : List V} (hcs : cs.length = 49) (hst : cs.map stripCell = cs) : Vm.Fn cw 3 [.agg cs, .int .i64 (a : Nat), .int .i64 (b : Nat)] ⟨[], 0⟩ (fun v _ => v = .bool true) := by
  obtain ⟨H2, hN, hlt, h0, hR⟩ := lawNew ha hb hne hcs hst
  have ht49 : cs.take 49 = cs := List.take_of_length_le (by omega)
  have hct := newct H2 hlt.drop
  have e1 : decide (((a : Nat) : Int) < 0) = false := by simp <;> omega
  have e2 : decide (((a : Nat) : Int) > 63) = false := by simp <;> omega
  have e3 : decide (((b : Nat) : Int) < 0) = false := by simp <;> omega
  have e4 : decide (((b : Nat) : Int) > 63) = false := by simp <;> omega
  have e5 : decide (((a : Nat) : Int) = ((b : Nat) : Int)) = false := by simp <;> omega
  have hlv := livesT
  refine goI Tryz.func3 rfl rfl rfl rfl ?_
  intro t ht
  have a0 : tget t 0 = .agg cs := ht 0 _ rfl
  have a1 : tget t 1 = .int .i64 (a : Nat) := ht 1 _ rfl
  have a2 : tget t 2 = .int .i64 (b : Nat) := ht 2 _ rfl
  clear ht
  have ex := And.intro @a0 (And.intro @a1 (And.intro @a2 (And.intro @e1 (And.intro @e2 (And.intro @e3 (And.intro @e4 (And.intro @e5 (And.intro @ht49 (And.intro @h0 (And.intro @bdL (And.intro @bsL (And.intro @hpB (And.intro @hpE (And.intro @zvE @bnP2))))))))))))))
  repeat' (first
   | (with_reducible refine isO ?_); first | refine mvA (h := ?_) | refine asA (h := ?_) | refine quA (h := ?_) | refine caA (hc := (hlv _)) (h := ?_) | refine caA (hc := hN) (h := ?_) | refine caA (hc := hct) (h := ?_)
   | (with_reducible refine isG ?_); first | refine stA (h := ?_) | refine srA (h := ?_) | refine swA (h := ?_) | refine s1A (h := ?_) | refine s0A (h := ?_) | refine sgA (h1 := fun _ => ?_) (h0 := fun _ => ?_) | refine sbA (h1 := fun _ => ?_) (h0 := fun _ => ?_)
   | (with_reducible refine isC ?_); first | refine ctA (h := ?_) | refine cfA (h := ?_) | refine cdA (h1 := fun _ => ?_) (h0 := fun _ => ?_) | refine cbA (h1 := fun _ => ?_) (h0 := fun _ => ?_)
   | with_reducible first | refine Ev.seq ?_ | refine Ev.ops ?_ | refine NxE ?_ | refine BxN ?_ | refine BxX ?_ | refine NxX ?_ | refine NxR ?_ | refine BxR ?_ | refine Ev.block ?_ | refine Ev.skip ?_ | refine Ev.exit ?_ | refine Ev.ret ?_ | refine EvOps.nil ?_ | refine EvPlan.nil ?_
   | (with_reducible refine BxO ?_ ?_; · decide)
   )
  refine sX (k := 7) (fi := []) (ca := []) («as» := [.ptr 2 0, .ptr 31 0, .int .i64 (a : Nat), .agg cs]) (by simp only [↓evP, ↓tgP, ↓reduceIte, Nat.reduceEqDiff, reduceCtorEq, List.map_cons, List.map_nil, List.nil_append, List.append_nil, List.toList_toArray, a0]) (by simp only [↓evP, ↓tgP, ↓reduceIte, Nat.reduceEqDiff, reduceCtorEq, List.map_cons, List.map_nil, List.nil_append, List.append_nil, List.toList_toArray, a0]) ?_
  refine Vm.Fn.mono hR ?_
  rintro v st' ⟨xs, hxl, rfl⟩
  obtain ⟨H3, n3⟩ := st'
  have hxc : ((xs.length : Nat) : Int) = 2048 := by omega
  have ex := And.intro @a0 (And.intro @hxl (And.intro @hxc (And.intro @hpB (And.intro @hpE @zvE))))
  repeat' (first
   | (with_reducible refine isO ?_); first | refine mvA (h := ?_) | refine asA (h := ?_) | refine quA (h := ?_)
   | (with_reducible refine isG ?_); first | refine stA (h := ?_) | refine srA (h := ?_) | refine swA (h := ?_) | refine s1A (h := ?_) | refine s0A (h := ?_) | refine sgA (h1 := fun _ => ?_) (h0 := fun _ => ?_) | refine sbA (h1 := fun _ => ?_) (h0 := fun _ => ?_)
   | (with_reducible refine isC ?_); first | refine ctA (h := ?_) | refine cfA (h := ?_) | refine cdA (h1 := fun _ => ?_) (h0 := fun _ => ?_) | refine cbA (h1 := fun _ => ?_) (h0 := fun _ => ?_)
   | with_reducible first | refine Ev.seq ?_ | refine Ev.ops ?_ | refine NxE ?_ | refine BxN ?_ | refine BxX ?_ | refine NxX ?_ | refine NxR ?_ | refine BxR ?_ | refine Ev.block ?_ | refine Ev.skip ?_ | refine Ev.exit ?_ | refine Ev.ret ?_ | refine EvOps.nil ?_ | refine EvPlan.nil ?_
   | (with_reducible refine BxO ?_ ?_; · decide)
   )
  all_goals exact ⟨rfl, _, by simp (disch := (first | assumption | omega)) only [↓opE, ↓evP, stE, binE, ldE, ↓tgP, ↓reduceIte, clE, ncE, szE, hgE, intBin, shiftBin, strBin, unV, indexAddrV, indexV, lenV, partV, isAggT, sliceV, boundsV, bndV, asIntV, fieldAddrV, fieldV, putAt, nilCheckV, makeIfaceV, stripAgg, stripCell, decide_eq_true_eq, beqD, bneD, notD, beqS, if_true, if_false, ite_true, ite_false, Bool.true_eq_false, Bool.false_eq_true, Nat.reduceEqDiff, Nat.reduceBEq, Nat.reduceAdd, Nat.reduceSub, Nat.reduceMul, Nat.min_def, Nat.reducePow, Nat.reduceLeDiff, Nat.reduceLT, Int.reduceEq, Int.reduceNe, Int.reduceLT, Int.reduceLE, Int.reduceToNat, Int.reduceAdd, Int.reduceSub, Int.reduceMul, Int.reducePow, Int.reduceNeg, Option.map_some, Option.map_none, Option.bind_some, Option.getD_some, Option.getD_none, ofBytes_length, ofBytes_get, ofBytes_take, ofBytes_drop, Int.toNat_natCast, Int.natCast_nonneg, and_self, true_and, and_true, List.getElem?_cons_zero, List.getElem?_cons_succ, decide_true, decide_false, Bool.not_true, Bool.not_false, List.getElem_toArray, List.getElem?_toArray, List.getElem_cons_succ, List.getElem_cons_zero, List.toList_toArray, List.map_cons, List.map_nil, List.take_succ_cons, List.take_zero, List.drop_succ_cons, List.drop_zero, List.length_cons, List.length_nil, List.nil_append, List.cons_append, List.append_nil, Nat.le_refl, Nat.zero_add, Nat.mul_one, Nat.add_zero, Nat.zero_lt_one, List.length_singleton, IntKind.bits, reduceCtorEq, not_true_eq_false, not_false_eq_true, ne_eq, if_pos, if_neg, wI64, wI32, wU8, wU16, wU32, wU64, Int.emod_eq_of_lt, Int.fdiv_eq_ediv_of_nonneg, Int.tdiv_eq_ediv_of_nonneg, Int.tmod_eq_emod_of_nonneg, tyE, resultsV, show Tryz.f3.results.toList = [.tmp 6] from rfl]; with_reducible rfl, rfl⟩

set_option maxHeartbeats 8000000 in
theorem lawBad0 {A B : Int}  (hc : A < 0) {cs : List V} : Vm.Fn cw 3 [.agg cs, .int .i64 A, .int .i64 B] ⟨[], 0⟩ (fun v _ => v = .bool true) := by
  have hlv := livesT
  have ec : decide (A < 0) = true := decide_eq_true hc
  refine goI Tryz.func3 rfl rfl rfl rfl ?_
  intro t ht
  have a0 : tget t 0 = .agg cs := ht 0 _ rfl
  have a1 : tget t 1 = .int .i64 A := ht 1 _ rfl
  have a2 : tget t 2 = .int .i64 B := ht 2 _ rfl
  clear ht
  have ex := And.intro @a0 (And.intro @a1 (And.intro @a2 (And.intro @ec (And.intro @hpB (And.intro @hpE @zvE)))))
  repeat' (first
   | (with_reducible refine isO ?_); first | refine mvA (h := ?_) | refine asA (h := ?_) | refine quA (h := ?_) | refine caA (hc := (hlv _)) (h := ?_)
   | (with_reducible refine isG ?_); first | refine stA (h := ?_) | refine srA (h := ?_) | refine swA (h := ?_) | refine s1A (h := ?_) | refine s0A (h := ?_) | refine sgA (h1 := fun _ => ?_) (h0 := fun _ => ?_) | refine sbA (h1 := fun _ => ?_) (h0 := fun _ => ?_)
   | (with_reducible refine isC ?_); first | refine ctA (h := ?_) | refine cfA (h := ?_) | refine cdA (h1 := fun _ => ?_) (h0 := fun _ => ?_) | refine cbA (h1 := fun _ => ?_) (h0 := fun _ => ?_)
   | with_reducible first | refine Ev.seq ?_ | refine Ev.ops ?_ | refine NxE ?_ | refine BxN ?_ | refine BxX ?_ | refine NxX ?_ | refine NxR ?_ | refine BxR ?_ | refine Ev.block ?_ | refine Ev.skip ?_ | refine Ev.exit ?_ | refine Ev.ret ?_ | refine EvOps.nil ?_ | refine EvPlan.nil ?_
   | (with_reducible refine BxO ?_ ?_; · decide)
   )
  all_goals exact ⟨rfl, _, by simp (disch := (first | assumption | omega)) only [↓opE, ↓evP, stE, binE, ldE, ↓tgP, ↓reduceIte, clE, ncE, szE, hgE, intBin, shiftBin, strBin, unV, indexAddrV, indexV, lenV, partV, isAggT, sliceV, boundsV, bndV, asIntV, fieldAddrV, fieldV, putAt, nilCheckV, makeIfaceV, stripAgg, stripCell, decide_eq_true_eq, beqD, bneD, notD, beqS, if_true, if_false, ite_true, ite_false, Bool.true_eq_false, Bool.false_eq_true, Nat.reduceEqDiff, Nat.reduceBEq, Nat.reduceAdd, Nat.reduceSub, Nat.reduceMul, Nat.min_def, Nat.reducePow, Nat.reduceLeDiff, Nat.reduceLT, Int.reduceEq, Int.reduceNe, Int.reduceLT, Int.reduceLE, Int.reduceToNat, Int.reduceAdd, Int.reduceSub, Int.reduceMul, Int.reducePow, Int.reduceNeg, Option.map_some, Option.map_none, Option.bind_some, Option.getD_some, Option.getD_none, ofBytes_length, ofBytes_get, ofBytes_take, ofBytes_drop, Int.toNat_natCast, Int.natCast_nonneg, and_self, true_and, and_true, List.getElem?_cons_zero, List.getElem?_cons_succ, decide_true, decide_false, Bool.not_true, Bool.not_false, List.getElem_toArray, List.getElem?_toArray, List.getElem_cons_succ, List.getElem_cons_zero, List.toList_toArray, List.map_cons, List.map_nil, List.take_succ_cons, List.take_zero, List.drop_succ_cons, List.drop_zero, List.length_cons, List.length_nil, List.nil_append, List.cons_append, List.append_nil, Nat.le_refl, Nat.zero_add, Nat.mul_one, Nat.add_zero, Nat.zero_lt_one, List.length_singleton, IntKind.bits, reduceCtorEq, not_true_eq_false, not_false_eq_true, ne_eq, if_pos, if_neg, wI64, wI32, wU8, wU16, wU32, wU64, Int.emod_eq_of_lt, Int.fdiv_eq_ediv_of_nonneg, Int.tdiv_eq_ediv_of_nonneg, Int.tmod_eq_emod_of_nonneg, tyE, resultsV, show Tryz.f3.results.toList = [.tmp 6] from rfl]; with_reducible rfl, rfl⟩

set_option maxHeartbeats 8000000 in
theorem lawBad1 {A B : Int} (h0 : ¬ A < 0) (hc : A > 63) {cs : List V} : Vm.Fn cw 3 [.agg cs, .int .i64 A, .int .i64 B] ⟨[], 0⟩ (fun v _ => v = .bool true) := by
  have hlv := livesT
  have e0 : decide (A < 0) = false := decide_eq_false h0
  have ec : decide (A > 63) = true := decide_eq_true hc
  refine goI Tryz.func3 rfl rfl rfl rfl ?_
  intro t ht
  have a0 : tget t 0 = .agg cs := ht 0 _ rfl
  have a1 : tget t 1 = .int .i64 A := ht 1 _ rfl
  have a2 : tget t 2 = .int .i64 B := ht 2 _ rfl
  clear ht
  have ex := And.intro @a0 (And.intro @a1 (And.intro @a2 (And.intro @ec (And.intro @e0 (And.intro @hpB (And.intro @hpE @zvE))))))
  repeat' (first
   | (with_reducible refine isO ?_); first | refine mvA (h := ?_) | refine asA (h := ?_) | refine quA (h := ?_) | refine caA (hc := (hlv _)) (h := ?_)
   | (with_reducible refine isG ?_); first | refine stA (h := ?_) | refine srA (h := ?_) | refine swA (h := ?_) | refine s1A (h := ?_) | refine s0A (h := ?_) | refine sgA (h1 := fun _ => ?_) (h0 := fun _ => ?_) | refine sbA (h1 := fun _ => ?_) (h0 := fun _ => ?_)
   | (with_reducible refine isC ?_); first | refine ctA (h := ?_) | refine cfA (h := ?_) | refine cdA (h1 := fun _ => ?_) (h0 := fun _ => ?_) | refine cbA (h1 := fun _ => ?_) (h0 := fun _ => ?_)
   | with_reducible first | refine Ev.seq ?_ | refine Ev.ops ?_ | refine NxE ?_ | refine BxN ?_ | refine BxX ?_ | refine NxX ?_ | refine NxR ?_ | refine BxR ?_ | refine Ev.block ?_ | refine Ev.skip ?_ | refine Ev.exit ?_ | refine Ev.ret ?_ | refine EvOps.nil ?_ | refine EvPlan.nil ?_
   | (with_reducible refine BxO ?_ ?_; · decide)
   )
  all_goals exact ⟨rfl, _, by simp (disch := (first | assumption | omega)) only [↓opE, ↓evP, stE, binE, ldE, ↓tgP, ↓reduceIte, clE, ncE, szE, hgE, intBin, shiftBin, strBin, unV, indexAddrV, indexV, lenV, partV, isAggT, sliceV, boundsV, bndV, asIntV, fieldAddrV, fieldV, putAt, nilCheckV, makeIfaceV, stripAgg, stripCell, decide_eq_true_eq, beqD, bneD, notD, beqS, if_true, if_false, ite_true, ite_false, Bool.true_eq_false, Bool.false_eq_true, Nat.reduceEqDiff, Nat.reduceBEq, Nat.reduceAdd, Nat.reduceSub, Nat.reduceMul, Nat.min_def, Nat.reducePow, Nat.reduceLeDiff, Nat.reduceLT, Int.reduceEq, Int.reduceNe, Int.reduceLT, Int.reduceLE, Int.reduceToNat, Int.reduceAdd, Int.reduceSub, Int.reduceMul, Int.reducePow, Int.reduceNeg, Option.map_some, Option.map_none, Option.bind_some, Option.getD_some, Option.getD_none, ofBytes_length, ofBytes_get, ofBytes_take, ofBytes_drop, Int.toNat_natCast, Int.natCast_nonneg, and_self, true_and, and_true, List.getElem?_cons_zero, List.getElem?_cons_succ, decide_true, decide_false, Bool.not_true, Bool.not_false, List.getElem_toArray, List.getElem?_toArray, List.getElem_cons_succ, List.getElem_cons_zero, List.toList_toArray, List.map_cons, List.map_nil, List.take_succ_cons, List.take_zero, List.drop_succ_cons, List.drop_zero, List.length_cons, List.length_nil, List.nil_append, List.cons_append, List.append_nil, Nat.le_refl, Nat.zero_add, Nat.mul_one, Nat.add_zero, Nat.zero_lt_one, List.length_singleton, IntKind.bits, reduceCtorEq, not_true_eq_false, not_false_eq_true, ne_eq, if_pos, if_neg, wI64, wI32, wU8, wU16, wU32, wU64, Int.emod_eq_of_lt, Int.fdiv_eq_ediv_of_nonneg, Int.tdiv_eq_ediv_of_nonneg, Int.tmod_eq_emod_of_nonneg, tyE, resultsV, show Tryz.f3.results.toList = [.tmp 6] from rfl]; with_reducible rfl, rfl⟩

set_option maxHeartbeats 8000000 in
theorem lawBad2 {A B : Int} (h0 : ¬ A < 0) (h1 : ¬ A > 63) (hc : B < 0) {cs : List V} : Vm.Fn cw 3 [.agg cs, .int .i64 A, .int .i64 B] ⟨[], 0⟩ (fun v _ => v = .bool true) := by
  have hlv := livesT
  have e0 : decide (A < 0) = false := decide_eq_false h0
  have e1 : decide (A > 63) = false := decide_eq_false h1
  have ec : decide (B < 0) = true := decide_eq_true hc
  refine goI Tryz.func3 rfl rfl rfl rfl ?_
  intro t ht
  have a0 : tget t 0 = .agg cs := ht 0 _ rfl
  have a1 : tget t 1 = .int .i64 A := ht 1 _ rfl
  have a2 : tget t 2 = .int .i64 B := ht 2 _ rfl
  clear ht
  have ex := And.intro @a0 (And.intro @a1 (And.intro @a2 (And.intro @ec (And.intro @e0 (And.intro @e1 (And.intro @hpB (And.intro @hpE @zvE)))))))
  repeat' (first
   | (with_reducible refine isO ?_); first | refine mvA (h := ?_) | refine asA (h := ?_) | refine quA (h := ?_) | refine caA (hc := (hlv _)) (h := ?_)
   | (with_reducible refine isG ?_); first | refine stA (h := ?_) | refine srA (h := ?_) | refine swA (h := ?_) | refine s1A (h := ?_) | refine s0A (h := ?_) | refine sgA (h1 := fun _ => ?_) (h0 := fun _ => ?_) | refine sbA (h1 := fun _ => ?_) (h0 := fun _ => ?_)
   | (with_reducible refine isC ?_); first | refine ctA (h := ?_) | refine cfA (h := ?_) | refine cdA (h1 := fun _ => ?_) (h0 := fun _ => ?_) | refine cbA (h1 := fun _ => ?_) (h0 := fun _ => ?_)
   | with_reducible first | refine Ev.seq ?_ | refine Ev.ops ?_ | refine NxE ?_ | refine BxN ?_ | refine BxX ?_ | refine NxX ?_ | refine NxR ?_ | refine BxR ?_ | refine Ev.block ?_ | refine Ev.skip ?_ | refine Ev.exit ?_ | refine Ev.ret ?_ | refine EvOps.nil ?_ | refine EvPlan.nil ?_
   | (with_reducible refine BxO ?_ ?_; · decide)
   )
  all_goals exact ⟨rfl, _, by simp (disch := (first | assumption | omega)) only [↓opE, ↓evP, stE, binE, ldE, ↓tgP, ↓reduceIte, clE, ncE, szE, hgE, intBin, shiftBin, strBin, unV, indexAddrV, indexV, lenV, partV, isAggT, sliceV, boundsV, bndV, asIntV, fieldAddrV, fieldV, putAt, nilCheckV, makeIfaceV, stripAgg, stripCell, decide_eq_true_eq, beqD, bneD, notD, beqS, if_true, if_false, ite_true, ite_false, Bool.true_eq_false, Bool.false_eq_true, Nat.reduceEqDiff, Nat.reduceBEq, Nat.reduceAdd, Nat.reduceSub, Nat.reduceMul, Nat.min_def, Nat.reducePow, Nat.reduceLeDiff, Nat.reduceLT, Int.reduceEq, Int.reduceNe, Int.reduceLT, Int.reduceLE, Int.reduceToNat, Int.reduceAdd, Int.reduceSub, Int.reduceMul, Int.reducePow, Int.reduceNeg, Option.map_some, Option.map_none, Option.bind_some, Option.getD_some, Option.getD_none, ofBytes_length, ofBytes_get, ofBytes_take, ofBytes_drop, Int.toNat_natCast, Int.natCast_nonneg, and_self, true_and, and_true, List.getElem?_cons_zero, List.getElem?_cons_succ, decide_true, decide_false, Bool.not_true, Bool.not_false, List.getElem_toArray, List.getElem?_toArray, List.getElem_cons_succ, List.getElem_cons_zero, List.toList_toArray, List.map_cons, List.map_nil, List.take_succ_cons, List.take_zero, List.drop_succ_cons, List.drop_zero, List.length_cons, List.length_nil, List.nil_append, List.cons_append, List.append_nil, Nat.le_refl, Nat.zero_add, Nat.mul_one, Nat.add_zero, Nat.zero_lt_one, List.length_singleton, IntKind.bits, reduceCtorEq, not_true_eq_false, not_false_eq_true, ne_eq, if_pos, if_neg, wI64, wI32, wU8, wU16, wU32, wU64, Int.emod_eq_of_lt, Int.fdiv_eq_ediv_of_nonneg, Int.tdiv_eq_ediv_of_nonneg, Int.tmod_eq_emod_of_nonneg, tyE, resultsV, show Tryz.f3.results.toList = [.tmp 6] from rfl]; with_reducible rfl, rfl⟩

set_option maxHeartbeats 8000000 in
theorem lawBad3 {A B : Int} (h0 : ¬ A < 0) (h1 : ¬ A > 63) (h2 : ¬ B < 0) (hc : B > 63) {cs : List V} : Vm.Fn cw 3 [.agg cs, .int .i64 A, .int .i64 B] ⟨[], 0⟩ (fun v _ => v = .bool true) := by
  have hlv := livesT
  have e0 : decide (A < 0) = false := decide_eq_false h0
  have e1 : decide (A > 63) = false := decide_eq_false h1
  have e2 : decide (B < 0) = false := decide_eq_false h2
  have ec : decide (B > 63) = true := decide_eq_true hc
  refine goI Tryz.func3 rfl rfl rfl rfl ?_
  intro t ht
  have a0 : tget t 0 = .agg cs := ht 0 _ rfl
  have a1 : tget t 1 = .int .i64 A := ht 1 _ rfl
  have a2 : tget t 2 = .int .i64 B := ht 2 _ rfl
  clear ht
  have ex := And.intro @a0 (And.intro @a1 (And.intro @a2 (And.intro @ec (And.intro @e0 (And.intro @e1 (And.intro @e2 (And.intro @hpB (And.intro @hpE @zvE))))))))
  repeat' (first
   | (with_reducible refine isO ?_); first | refine mvA (h := ?_) | refine asA (h := ?_) | refine quA (h := ?_) | refine caA (hc := (hlv _)) (h := ?_)
   | (with_reducible refine isG ?_); first | refine stA (h := ?_) | refine srA (h := ?_) | refine swA (h := ?_) | refine s1A (h := ?_) | refine s0A (h := ?_) | refine sgA (h1 := fun _ => ?_) (h0 := fun _ => ?_) | refine sbA (h1 := fun _ => ?_) (h0 := fun _ => ?_)
   | (with_reducible refine isC ?_); first | refine ctA (h := ?_) | refine cfA (h := ?_) | refine cdA (h1 := fun _ => ?_) (h0 := fun _ => ?_) | refine cbA (h1 := fun _ => ?_) (h0 := fun _ => ?_)
   | with_reducible first | refine Ev.seq ?_ | refine Ev.ops ?_ | refine NxE ?_ | refine BxN ?_ | refine BxX ?_ | refine NxX ?_ | refine NxR ?_ | refine BxR ?_ | refine Ev.block ?_ | refine Ev.skip ?_ | refine Ev.exit ?_ | refine Ev.ret ?_ | refine EvOps.nil ?_ | refine EvPlan.nil ?_
   | (with_reducible refine BxO ?_ ?_; · decide)
   )
  all_goals exact ⟨rfl, _, by simp (disch := (first | assumption | omega)) only [↓opE, ↓evP, stE, binE, ldE, ↓tgP, ↓reduceIte, clE, ncE, szE, hgE, intBin, shiftBin, strBin, unV, indexAddrV, indexV, lenV, partV, isAggT, sliceV, boundsV, bndV, asIntV, fieldAddrV, fieldV, putAt, nilCheckV, makeIfaceV, stripAgg, stripCell, decide_eq_true_eq, beqD, bneD, notD, beqS, if_true, if_false, ite_true, ite_false, Bool.true_eq_false, Bool.false_eq_true, Nat.reduceEqDiff, Nat.reduceBEq, Nat.reduceAdd, Nat.reduceSub, Nat.reduceMul, Nat.min_def, Nat.reducePow, Nat.reduceLeDiff, Nat.reduceLT, Int.reduceEq, Int.reduceNe, Int.reduceLT, Int.reduceLE, Int.reduceToNat, Int.reduceAdd, Int.reduceSub, Int.reduceMul, Int.reducePow, Int.reduceNeg, Option.map_some, Option.map_none, Option.bind_some, Option.getD_some, Option.getD_none, ofBytes_length, ofBytes_get, ofBytes_take, ofBytes_drop, Int.toNat_natCast, Int.natCast_nonneg, and_self, true_and, and_true, List.getElem?_cons_zero, List.getElem?_cons_succ, decide_true, decide_false, Bool.not_true, Bool.not_false, List.getElem_toArray, List.getElem?_toArray, List.getElem_cons_succ, List.getElem_cons_zero, List.toList_toArray, List.map_cons, List.map_nil, List.take_succ_cons, List.take_zero, List.drop_succ_cons, List.drop_zero, List.length_cons, List.length_nil, List.nil_append, List.cons_append, List.append_nil, Nat.le_refl, Nat.zero_add, Nat.mul_one, Nat.add_zero, Nat.zero_lt_one, List.length_singleton, IntKind.bits, reduceCtorEq, not_true_eq_false, not_false_eq_true, ne_eq, if_pos, if_neg, wI64, wI32, wU8, wU16, wU32, wU64, Int.emod_eq_of_lt, Int.fdiv_eq_ediv_of_nonneg, Int.tdiv_eq_ediv_of_nonneg, Int.tmod_eq_emod_of_nonneg, tyE, resultsV, show Tryz.f3.results.toList = [.tmp 6] from rfl]; with_reducible rfl, rfl⟩

set_option maxHeartbeats 8000000 in
theorem lawBad4 {A B : Int} (h0 : ¬ A < 0) (h1 : ¬ A > 63) (h2 : ¬ B < 0) (h3 : ¬ B > 63) (hc : A = B) {cs : List V} : Vm.Fn cw 3 [.agg cs, .int .i64 A, .int .i64 B] ⟨[], 0⟩ (fun v _ => v = .bool true) := by
  have hlv := livesT
  have e0 : decide (A < 0) = false := decide_eq_false h0
  have e1 : decide (A > 63) = false := decide_eq_false h1
  have e2 : decide (B < 0) = false := decide_eq_false h2
  have e3 : decide (B > 63) = false := decide_eq_false h3
  have ec : decide (A = B) = true := decide_eq_true hc
  refine goI Tryz.func3 rfl rfl rfl rfl ?_
  intro t ht
  have a0 : tget t 0 = .agg cs := ht 0 _ rfl
  have a1 : tget t 1 = .int .i64 A := ht 1 _ rfl
  have a2 : tget t 2 = .int .i64 B := ht 2 _ rfl
  clear ht
  have ex := And.intro @a0 (And.intro @a1 (And.intro @a2 (And.intro @ec (And.intro @e0 (And.intro @e1 (And.intro @e2 (And.intro @e3 (And.intro @hpB (And.intro @hpE @zvE)))))))))
  repeat' (first
   | (with_reducible refine isO ?_); first | refine mvA (h := ?_) | refine asA (h := ?_) | refine quA (h := ?_) | refine caA (hc := (hlv _)) (h := ?_)
   | (with_reducible refine isG ?_); first | refine stA (h := ?_) | refine srA (h := ?_) | refine swA (h := ?_) | refine s1A (h := ?_) | refine s0A (h := ?_) | refine sgA (h1 := fun _ => ?_) (h0 := fun _ => ?_) | refine sbA (h1 := fun _ => ?_) (h0 := fun _ => ?_)
   | (with_reducible refine isC ?_); first | refine ctA (h := ?_) | refine cfA (h := ?_) | refine cdA (h1 := fun _ => ?_) (h0 := fun _ => ?_) | refine cbA (h1 := fun _ => ?_) (h0 := fun _ => ?_)
   | with_reducible first | refine Ev.seq ?_ | refine Ev.ops ?_ | refine NxE ?_ | refine BxN ?_ | refine BxX ?_ | refine NxX ?_ | refine NxR ?_ | refine BxR ?_ | refine Ev.block ?_ | refine Ev.skip ?_ | refine Ev.exit ?_ | refine Ev.ret ?_ | refine EvOps.nil ?_ | refine EvPlan.nil ?_
   | (with_reducible refine BxO ?_ ?_; · decide)
   )
  all_goals exact ⟨rfl, _, by simp (disch := (first | assumption | omega)) only [↓opE, ↓evP, stE, binE, ldE, ↓tgP, ↓reduceIte, clE, ncE, szE, hgE, intBin, shiftBin, strBin, unV, indexAddrV, indexV, lenV, partV, isAggT, sliceV, boundsV, bndV, asIntV, fieldAddrV, fieldV, putAt, nilCheckV, makeIfaceV, stripAgg, stripCell, decide_eq_true_eq, beqD, bneD, notD, beqS, if_true, if_false, ite_true, ite_false, Bool.true_eq_false, Bool.false_eq_true, Nat.reduceEqDiff, Nat.reduceBEq, Nat.reduceAdd, Nat.reduceSub, Nat.reduceMul, Nat.min_def, Nat.reducePow, Nat.reduceLeDiff, Nat.reduceLT, Int.reduceEq, Int.reduceNe, Int.reduceLT, Int.reduceLE, Int.reduceToNat, Int.reduceAdd, Int.reduceSub, Int.reduceMul, Int.reducePow, Int.reduceNeg, Option.map_some, Option.map_none, Option.bind_some, Option.getD_some, Option.getD_none, ofBytes_length, ofBytes_get, ofBytes_take, ofBytes_drop, Int.toNat_natCast, Int.natCast_nonneg, and_self, true_and, and_true, List.getElem?_cons_zero, List.getElem?_cons_succ, decide_true, decide_false, Bool.not_true, Bool.not_false, List.getElem_toArray, List.getElem?_toArray, List.getElem_cons_succ, List.getElem_cons_zero, List.toList_toArray, List.map_cons, List.map_nil, List.take_succ_cons, List.take_zero, List.drop_succ_cons, List.drop_zero, List.length_cons, List.length_nil, List.nil_append, List.cons_append, List.append_nil, Nat.le_refl, Nat.zero_add, Nat.mul_one, Nat.add_zero, Nat.zero_lt_one, List.length_singleton, IntKind.bits, reduceCtorEq, not_true_eq_false, not_false_eq_true, ne_eq, if_pos, if_neg, wI64, wI32, wU8, wU16, wU32, wU64, Int.emod_eq_of_lt, Int.fdiv_eq_ediv_of_nonneg, Int.tdiv_eq_ediv_of_nonneg, Int.tmod_eq_emod_of_nonneg, tyE, resultsV, show Tryz.f3.results.toList = [.tmp 6] from rfl]; with_reducible rfl, rfl⟩

theorem lawAll (A B : Int) {cs : List V} (hcs : cs.length = 49) (hst : cs.map stripCell = cs) : Vm.Fn cw 3 [.agg cs, .int .i64 A, .int .i64 B] ⟨[], 0⟩ (fun v _ => v = .bool true) := by
  by_cases h0 : A < 0
  · exact lawBad0 h0
  by_cases h1 : A > 63
  · exact lawBad1 h0 h1
  by_cases h2 : B < 0
  · exact lawBad2 h0 h1 h2
  by_cases h3 : B > 63
  · exact lawBad3 h0 h1 h2 h3
  by_cases h4 : A = B
  · exact lawBad4 h0 h1 h2 h3 h4
  obtain ⟨a, rfl⟩ : ∃ a : Nat, A = a := ⟨A.toNat, by omega⟩
  obtain ⟨b, rfl⟩ : ∃ b : Nat, B = b := ⟨B.toNat, by omega⟩
  exact lawGood (by omega) (by omega) (by omega) hcs hst
end Go.Proofs.YtbgalenfbmaceaaGreatDoor.D
