/- A run: a Clone that sends. -/
import Derived.Test.YtbgalenfbmaceaaGreatDoorDeV17
set_option linter.unusedSimpArgs false
set_option linter.unusedVariables false
set_option maxRecDepth 1000000
namespace Go.Proofs.YtbgalenfbmaceaaGreatDoor.D
open Go Go.Vm Go.Proofs Go.Proofs.YtbgalenfbmaceaaGreatDoor

/-- What becomes of the sent ones when one more is sent. -/
def AP (S : V) (xs cs : List V) (H H0 : List (Nat × Ob)) (n : Nat) : Prop := ∀ (P : List (Nat × Ob)) (m : Nat) (u : Tip), (∀ p ∈ P, n ≤ p.1) → appendV cw ⟨P ++ H, m⟩ 57 S (.sl u [.agg (.bool false :: .int .i64 7 :: cs)]) = some (.sl (.own m) xs, ⟨(m, .tip 51) :: (P ++ H0), m + 1⟩)
theorem AP.full {cs : List V} (h : cs.length = 49) (hs : cs.map stripCell = cs) (H : List (Nat × Ob)) (n : Nat) : AP (.sl .full []) [.agg (.bool false :: .int .i64 7 :: cs)] cs H H n := fun P m u _ => ap57 h hs _ _ _
theorem hg_app : ∀ (P : List (Nat × Ob)) {H : List (Nat × Ob)} {n b : Nat}, (∀ p ∈ P, n ≤ p.1) → b < n → hget (P ++ H) b = hget H b ∧ hdel (P ++ H) b = P ++ hdel H b
  | [], _, _, _, _, _ => ⟨rfl, rfl⟩
  | (i, o) :: P, H, n, b, h, hb => by
    have h1 : n ≤ i := h (i, o) List.mem_cons_self
    have h2 := hg_app P (H := H) (fun p hp => h p (List.mem_cons_of_mem _ hp)) hb
    have h3 : (i == b) = false := by simp; omega
    simp [hget, hdel, h3, h2]
theorem AP.own {cs xs : List V} (h : cs.length = 49) (hs : cs.map stripCell = cs) (hx : szOk 51 xs = true) (hl : xs.length ≤ 4096) {H : List (Nat × Ob)} {n b : Nat} (hb : hget H b = some (.tip 51)) (hn : b < n) : AP (.sl (.own b) xs) (xs ++ [.agg (.bool false :: .int .i64 7 :: cs)]) cs H (hdel H b) n := fun P m u hP => by
  obtain ⟨h1, h2⟩ := hg_app P (H := H) hP hn
  rw [ap57b h hs hx hl _ _ b u (by rw [h1]; exact hb), h2]
theorem AP.ext {S : V} {xs cs : List V} {H H0 : List (Nat × Ob)} {n : Nat} (h : AP S xs cs H H0 n) (P : List (Nat × Ob)) {m : Nat} (hP : ∀ p ∈ P, n ≤ p.1) (hm : n ≤ m) : AP S xs cs (P ++ H) (P ++ H0) m := fun P2 k u h2 => by
  have := h (P2 ++ P) k u (fun p hp => by rcases List.mem_append.1 hp with hp | hp; exact Nat.le_trans hm (h2 p hp); exact hP p hp)
  simpa using this
theorem mem1 {n a : Nat} {oa : Ob} (h : n ≤ a) : ∀ p ∈ [(a, oa)], n ≤ p.1 := fun p hp => by simp at hp; subst hp; exact h
theorem mem2 {n a b : Nat} {oa ob : Ob} (h : n ≤ a) (h2 : n ≤ b) : ∀ p ∈ [(a, oa), (b, ob)], n ≤ p.1 := fun p hp => by simp at hp; rcases hp with rfl | rfl; exact h; exact h2
theorem mem3 {n a b c : Nat} {oa ob oc : Ob} (h : n ≤ a) (h2 : n ≤ b) (h3 : n ≤ c) : ∀ p ∈ [(a, oa), (b, ob), (c, oc)], n ≤ p.1 := fun p hp => by simp at hp; rcases hp with rfl | rfl | rfl; exact h; exact h2; exact h3

set_option maxHeartbeats 8000000 in
theorem listOut {H H0 : List (Nat × Ob)} {n r pt tt : Nat} {S goes : V} {xs cs : List V} (hcs : cs.length = 49) (hst : cs.map stripCell = cs) (hw : hdrop n H = H) (l5 : r < n) (hr : hget H r = some (.cells [.ptr pt 0, .ptr tt 0, S, goes, .bool false])) (hr0 : hget H0 r = some (.cells [.ptr pt 0, .ptr tt 0, S, goes, .bool false])) (hx : AP S xs cs H H0 n) :
    FnS cw 13 [.ptr r 0, .sl .none [actOutF], .agg cs] ⟨H, n⟩ (.tup []) ⟨(n + 1 + 1 + 1 + 1 + 1, .tip 51) :: hset H0 r (.cells [.ptr pt 0, .ptr tt 0, .sl (.own (n + 1 + 1 + 1 + 1 + 1)) xs, goes, .bool false]), n + 1 + 1 + 1 + 1 + 1 + 1⟩ := by
  have ht49 : cs.take 49 = cs := List.take_of_length_le (by omega)
  have hdz : cs.drop 49 = [] := List.drop_eq_nil_of_le (by omega)
  have han := List.append_nil cs
  have hone := oneG (H := (n + 1, .cells [.int .i64 6, .int .i64 0, .int .i64 0, .int .u64 0, .int .u64 0, .int .i64 0, .int .i64 7, .sl .full [], .sl .full [], .int .u64 0, .int .u32 0, .int .u32 0, .int .u32 0, .int .u32 0, .int .u32 0]) :: (n, .cells cs) :: H) (H0 := (n + 1, .cells [.int .i64 6, .int .i64 0, .int .i64 0, .int .u64 0, .int .u64 0, .int .i64 0, .int .i64 7, .sl .full [], .sl .full [], .int .u64 0, .int .u32 0, .int .u32 0, .int .u32 0, .int .u32 0, .int .u32 0]) :: (n, .cells cs) :: H0) (n := n + 1 + 1) (r := r) (pt := pt) (tt := tt) (S := S) (goes := goes) (over := .bool false) (xs := xs) hcs hst (by simp (disch := omega) only [hpW]) (by omega) (by simp (disch := omega) only [hpE, hr]) (by simp (disch := omega) only [hpE, hr0])
    (fun u => (hx.ext [(n + 1, .cells [.int .i64 6, .int .i64 0, .int .i64 0, .int .u64 0, .int .u64 0, .int .i64 0, .int .i64 7, .sl .full [], .sl .full [], .int .u64 0, .int .u32 0, .int .u32 0, .int .u32 0, .int .u32 0, .int .u32 0]), (n, .cells cs)] (m := n + 1 + 1) (mem2 (by omega) (by omega)) (by omega)) [(n + 1 + 1 + 1 + 1, .cells z38), (n + 1 + 1 + 1, .cells cs), (n + 1 + 1, .cells [.int .i64 6, .int .i64 0, .int .i64 0, .int .u64 0, .int .u64 0, .int .i64 0, .int .i64 7, .sl .full [], .sl .full [], .int .u64 0, .int .u32 0, .int .u32 0, .int .u32 0, .int .u32 0, .int .u32 0])] _ u (mem3 (by omega) (by omega) (by omega)))
  simp only [actOutF] at hone
  refine FnS.sub (H := (n + 1 + 1 + 1 + 1 + 1, .tip 51) :: (n + 1, .cells [.int .i64 6, .int .i64 0, .int .i64 0, .int .u64 0, .int .u64 0, .int .i64 0, .int .i64 7, .sl .full [], .sl .full [], .int .u64 0, .int .u32 0, .int .u32 0, .int .u32 0, .int .u32 0, .int .u32 0]) :: (n, .cells cs) :: hset H0 r (.cells [.ptr pt 0, .ptr tt 0, .sl (.own (n + 1 + 1 + 1 + 1 + 1)) xs, goes, .bool false])) ?_ (.cons_cons _ (.cons _ (.cons _ (.refl _))))
  refine goS Tryz.func13 rfl rfl rfl rfl ?_
  intro t ht
  have a0 : tget t 0 = .ptr r 0 := ht 0 _ rfl
  have a1 : tget t 1 = .sl .none [.agg [.int .i64 6, .int .i64 0, .int .i64 0, .int .u64 0, .int .u64 0, .int .i64 0, .int .i64 7, .sl .full [], .sl .full [], .int .u64 0, .int .u32 0, .int .u32 0, .int .u32 0, .int .u32 0, .int .u32 0]] := ht 1 _ rfl
  have a2 : tget t 2 = .agg cs := ht 2 _ rfl
  clear ht
  have ex := And.intro @a0 (And.intro @a1 (And.intro @a2 (And.intro @hpB @hpE)))
  repeat' (first
   | (with_reducible refine isO ?_); first | refine mvA (h := ?_) | refine asA (h := ?_) | refine quA (h := ?_) | refine wnA (h := ?_)
   | (with_reducible refine isC ?_); first | refine ctA (h := ?_) | refine cfA (h := ?_) | refine cdA (h1 := fun _ => ?_) (h0 := fun _ => ?_) | refine cbA (h1 := fun _ => ?_) (h0 := fun _ => ?_)
   | with_reducible first | refine Ev.seq ?_ | refine Ev.ops ?_ | refine NxE ?_ | refine BxN ?_ | refine BxX ?_ | refine NxX ?_ | refine NxR ?_ | refine BxR ?_ | refine NxG ?_ | refine BxG ?_ | refine GxR ?_ | refine GxN ?_ | refine GxX ?_ | refine Ev.goto ?_ | refine Ev.block ?_ | refine Ev.skip ?_ | refine Ev.exit ?_ | refine Ev.ret ?_ | refine Ev.label ?_ | refine EvOps.nil ?_ | refine EvPlan.nil ?_
   | (with_reducible refine BxO ?_ ?_; · decide)
   | with_reducible refine Ev.scope (EvS.of ?_)
   | refine GxJ (by rfl) (EvS.of ?_)
   )
  refine loopT (fun q t st => ((q = 1 ∧ tget t 11 = .int .i64 0 ∧ st = ⟨(n, .cells cs) :: H, n + 1⟩) ∨ (q = 0 ∧ tget t 11 = .int .i64 1 ∧ st = ⟨(n + 1 + 1 + 1 + 1 + 1, .tip 51) :: (n + 1, .cells [.int .i64 6, .int .i64 0, .int .i64 0, .int .u64 0, .int .u64 0, .int .i64 0, .int .i64 7, .sl .full [], .sl .full [], .int .u64 0, .int .u32 0, .int .u32 0, .int .u32 0, .int .u32 0, .int .u32 0]) :: (n, .cells cs) :: hset H0 r (.cells [.ptr pt 0, .ptr tt 0, .sl (.own (n + 1 + 1 + 1 + 1 + 1)) xs, goes, .bool false]), n + 1 + 1 + 1 + 1 + 1 + 1⟩)) ∧ tget t 0 = .ptr r 0 ∧ tget t 5 = .ptr n 0 ∧ tget t 9 = .sl .none [.agg [.int .i64 6, .int .i64 0, .int .i64 0, .int .u64 0, .int .u64 0, .int .i64 0, .int .i64 7, .sl .full [], .sl .full [], .int .u64 0, .int .u32 0, .int .u32 0, .int .u32 0, .int .u32 0, .int .u32 0]] ∧ tget t 10 = .int .i64 1) (n := 1) ?_ ?_
  · refine ⟨.inl ⟨rfl, ?_, rfl⟩, ?_, ?_, ?_, ?_⟩
    · simp only [↓evP, ↓tgP, ↓reduceIte, Nat.reduceEqDiff, reduceCtorEq, List.map_cons, List.map_nil, List.nil_append, List.append_nil, List.toList_toArray, a0]
    · simp only [↓evP, ↓tgP, ↓reduceIte, Nat.reduceEqDiff, reduceCtorEq, List.map_cons, List.map_nil, List.nil_append, List.append_nil, List.toList_toArray, a0]
    · simp only [↓evP, ↓tgP, ↓reduceIte, Nat.reduceEqDiff, reduceCtorEq, List.map_cons, List.map_nil, List.nil_append, List.append_nil, List.toList_toArray, a0]
    · simp only [↓evP, ↓tgP, ↓reduceIte, Nat.reduceEqDiff, reduceCtorEq, List.map_cons, List.map_nil, List.nil_append, List.append_nil, List.toList_toArray, a0, a1]
    · simp only [↓evP, ↓tgP, ↓reduceIte, Nat.reduceEqDiff, reduceCtorEq, List.map_cons, List.map_nil, List.nil_append, List.append_nil, List.toList_toArray, a0]; rfl
  clear a0 a1
  rintro q t st ⟨⟨rfl, c11, rfl⟩ | ⟨rfl, c11, rfl⟩, c0, c5, c9, c10⟩
  · skip
    have ex := And.intro @c0 (And.intro @c5 (And.intro @c9 (And.intro @c10 (And.intro @c11 (And.intro @ht49 (And.intro @hdz (And.intro @han (And.intro @hcs (And.intro @hpB (And.intro @hpE @zvE))))))))))
    repeat' (first
     | (with_reducible refine isO ?_); first | refine mvA (h := ?_) | refine asA (h := ?_) | refine quA (h := ?_) | refine wnA (h := ?_) | refine caA (hc := hone) (h := ?_)
     | (with_reducible refine isC ?_); first | refine ctA (h := ?_) | refine cfA (h := ?_) | refine cdA (h1 := fun _ => ?_) (h0 := fun _ => ?_) | refine cbA (h1 := fun _ => ?_) (h0 := fun _ => ?_)
     | with_reducible first | refine Ev.seq ?_ | refine Ev.ops ?_ | refine NxE ?_ | refine BxN ?_ | refine BxX ?_ | refine NxX ?_ | refine NxR ?_ | refine BxR ?_ | refine NxG ?_ | refine BxG ?_ | refine GxR ?_ | refine GxN ?_ | refine GxX ?_ | refine Ev.goto ?_ | refine Ev.block ?_ | refine Ev.skip ?_ | refine Ev.exit ?_ | refine Ev.ret ?_ | refine Ev.label ?_ | refine EvOps.nil ?_ | refine EvPlan.nil ?_
     | (with_reducible refine BxO ?_ ?_; · decide)
     | with_reducible refine Ev.scope (EvS.of ?_)
     | refine GxJ (by rfl) (EvS.of ?_)
     )
    refine ⟨0, by omega, rfl, .inr ⟨rfl, ?_, rfl⟩, ?_, ?_, ?_, ?_⟩
    · simp only [↓evP, ↓tgP, ↓reduceIte, Nat.reduceEqDiff, reduceCtorEq, List.map_cons, List.map_nil, List.nil_append, List.append_nil, List.toList_toArray, c11]
    · simp only [↓evP, ↓tgP, ↓reduceIte, Nat.reduceEqDiff, reduceCtorEq, List.map_cons, List.map_nil, List.nil_append, List.append_nil, List.toList_toArray, c0]
    · simp only [↓evP, ↓tgP, ↓reduceIte, Nat.reduceEqDiff, reduceCtorEq, List.map_cons, List.map_nil, List.nil_append, List.append_nil, List.toList_toArray, c5]
    · simp only [↓evP, ↓tgP, ↓reduceIte, Nat.reduceEqDiff, reduceCtorEq, List.map_cons, List.map_nil, List.nil_append, List.append_nil, List.toList_toArray, c9]
    · simp only [↓evP, ↓tgP, ↓reduceIte, Nat.reduceEqDiff, reduceCtorEq, List.map_cons, List.map_nil, List.nil_append, List.append_nil, List.toList_toArray, c10]
  · skip
    have ex := And.intro @c0 (And.intro @c5 (And.intro @c9 (And.intro @c10 (And.intro @c11 (And.intro @hpB (And.intro @hpE @zvE))))))
    repeat' (first
     | (with_reducible refine isO ?_); first | refine mvA (h := ?_) | refine asA (h := ?_) | refine quA (h := ?_) | refine wnA (h := ?_)
     | (with_reducible refine isC ?_); first | refine ctA (h := ?_) | refine cfA (h := ?_) | refine cdA (h1 := fun _ => ?_) (h0 := fun _ => ?_) | refine cbA (h1 := fun _ => ?_) (h0 := fun _ => ?_)
     | with_reducible first | refine Ev.seq ?_ | refine Ev.ops ?_ | refine NxE ?_ | refine BxN ?_ | refine BxX ?_ | refine NxX ?_ | refine NxR ?_ | refine BxR ?_ | refine NxG ?_ | refine BxG ?_ | refine GxR ?_ | refine GxN ?_ | refine GxX ?_ | refine Ev.goto ?_ | refine Ev.block ?_ | refine Ev.skip ?_ | refine Ev.exit ?_ | refine Ev.ret ?_ | refine Ev.label ?_ | refine EvOps.nil ?_ | refine EvPlan.nil ?_
     | (with_reducible refine BxO ?_ ?_; · decide)
     | with_reducible refine Ev.scope (EvS.of ?_)
     | refine GxJ (by rfl) (EvS.of ?_)
     )
    all_goals refine lsA (rl := []) rfl (hv := by
      simp only [leaveV, packV, strip, stripAgg, stripCell, List.map_cons, List.map_nil, show cw.grow 13 = false from rfl, show cw.keep 13 = true from rfl, show cw.frz 13 = false from rfl, if_false, if_true, Bool.false_eq_true]
      (try simp (disch := omega) only [hpW, hpA, hw, hpE])
      first | done | rfl)

set_option maxHeartbeats 8000000 in
theorem oneC {H H0 : List (Nat × Ob)} {n r pt tt : Nat} {S goes : V} {xs cs : List V} (hcs : cs.length = 49) (hst : cs.map stripCell = cs) (hw : hdrop n H = H) (l5 : r < n) (hr : hget H r = some (.cells [.ptr pt 0, .ptr tt 0, S, goes, .bool false])) (hr0 : hget H0 r = some (.cells [.ptr pt 0, .ptr tt 0, S, goes, .bool false])) (hx : AP S xs cs H H0 n) :
    FnS cw 29 [.ptr r 0, actClone', .agg cs] ⟨H, n⟩ (.tup [.agg cs, .bool true]) ⟨(n + 1 + 1 + 1 + 1 + 1 + 1 + 1 + 1, .tip 51) :: hset H0 r (.cells [.ptr pt 0, .ptr tt 0, .sl (.own (n + 1 + 1 + 1 + 1 + 1 + 1 + 1 + 1)) xs, goes, .bool false]), n + 1 + 1 + 1 + 1 + 1 + 1 + 1 + 1 + 1⟩ := by
  have ht49 : cs.take 49 = cs := List.take_of_length_le (by omega)
  have hdz : z38.drop 49 = [] := List.drop_eq_nil_of_le (by rw [z38l]; omega)
  have hgs := fun o => hgS H0 (a := r) o hr0
  have zl := z38l
  have han := List.append_nil cs
  have hls := listOut (H := (n + 1 + 1, .cells z38) :: (n + 1, .cells cs) :: (n, .cells [.int .i64 5, .int .i64 0, .int .i64 0, .int .u64 0, .int .u64 0, .int .i64 0, .int .i64 0, .sl .none [actOutF], .sl .full [], .int .u64 0, .int .u32 0, .int .u32 0, .int .u32 0, .int .u32 0, .int .u32 0]) :: H) (H0 := (n + 1 + 1, .cells z38) :: (n + 1, .cells cs) :: (n, .cells [.int .i64 5, .int .i64 0, .int .i64 0, .int .u64 0, .int .u64 0, .int .i64 0, .int .i64 0, .sl .none [actOutF], .sl .full [], .int .u64 0, .int .u32 0, .int .u32 0, .int .u32 0, .int .u32 0, .int .u32 0]) :: H0) (n := n + 1 + 1 + 1) (r := r) (pt := pt) (tt := tt) (S := S) (goes := goes) (xs := xs) hcs hst (by simp (disch := omega) only [hpW]) (by omega) (by simp (disch := omega) only [hpE, hr]) (by simp (disch := omega) only [hpE, hr0])
    (hx.ext [(n + 1 + 1, .cells z38), (n + 1, .cells cs), (n, .cells [.int .i64 5, .int .i64 0, .int .i64 0, .int .u64 0, .int .u64 0, .int .i64 0, .int .i64 0, .sl .none [actOutF], .sl .full [], .int .u64 0, .int .u32 0, .int .u32 0, .int .u32 0, .int .u32 0, .int .u32 0])] (mem3 (by omega) (by omega) (by omega)) (by omega))
  simp (disch := omega) only [hpE] at hls
  refine FnS.sub (H := (n + 1 + 1 + 1 + 1 + 1 + 1 + 1 + 1, .tip 51) :: (n + 1 + 1, .cells cs) :: (n + 1, .cells cs) :: (n, .cells [.int .i64 5, .int .i64 0, .int .i64 0, .int .u64 0, .int .u64 0, .int .i64 0, .int .i64 0, .sl .none [actOutF], .sl .full [], .int .u64 0, .int .u32 0, .int .u32 0, .int .u32 0, .int .u32 0, .int .u32 0]) :: hset H0 r (.cells [.ptr pt 0, .ptr tt 0, .sl (.own (n + 1 + 1 + 1 + 1 + 1 + 1 + 1 + 1)) xs, goes, .bool false])) ?_ (.cons_cons _ (.cons _ (.cons _ (.cons _ (.refl _)))))
  refine goS Tryz.func29 rfl rfl rfl rfl ?_
  intro t ht
  have a0 : tget t 0 = .ptr r 0 := ht 0 _ rfl
  have a1 : tget t 1 = .agg [.int .i64 5, .int .i64 0, .int .i64 0, .int .u64 0, .int .u64 0, .int .i64 0, .int .i64 0, .sl .none [actOutF], .sl .full [], .int .u64 0, .int .u32 0, .int .u32 0, .int .u32 0, .int .u32 0, .int .u32 0] := ht 1 _ rfl
  have a2 : tget t 2 = .agg cs := ht 2 _ rfl
  clear ht
  have ex := And.intro @a0 (And.intro @a1 (And.intro @a2 (And.intro @hr0 (And.intro @hgs (And.intro @ht49 (And.intro @hdz (And.intro @han (And.intro @zl (And.intro @hcs (And.intro @hpB (And.intro @hpE (And.intro @hpA (And.intro @zvE @zv38)))))))))))))
  repeat' (first
   | (with_reducible refine isO ?_); first | refine mvA (h := ?_) | refine asA (h := ?_) | refine quA (h := ?_) | refine wnA (h := ?_) | refine caA (hc := hls) (h := ?_)
   | (with_reducible refine isP ?_); first | refine dqA (h := ?_) | refine dnA (i := 6) (l := [4]) (h := ?_) | refine dwA (i := 13) (l := []) (h := ?_) | refine dnA (i := 16) (l := []) (h := ?_) | refine dnA (i := 5) (l := []) (h := ?_)
   | (with_reducible refine isC ?_); first | refine ctA (h := ?_) | refine cfA (h := ?_) | refine cdA (h1 := fun _ => ?_) (h0 := fun _ => ?_) | refine cbA (h1 := fun _ => ?_) (h0 := fun _ => ?_)
   | (with_reducible refine isR ?_); first
     | refine Ev.drawn (by decide +kernel) (l := [0, 1, 2, 3, 4, 5, 6, 7]) (by decide +kernel) ?_
     | refine Ev.drawn (by decide +kernel) (l := [0, 1, 2, 3, 4, 5, 6, 7, 8, 9, 10, 11, 12, 13, 14, 15, 16]) (by decide +kernel) ?_
     | refine Ev.drawn (by decide +kernel) (l := [0, 1, 2, 3, 4, 5, 6]) (by decide +kernel) ?_
   | with_reducible first | refine Ev.seq ?_ | refine Ev.ops ?_ | refine NxE ?_ | refine BxN ?_ | refine BxX ?_ | refine NxX ?_ | refine NxR ?_ | refine BxR ?_ | refine Ev.block ?_ | refine Ev.skip ?_ | refine Ev.exit ?_ | refine Ev.ret ?_ | refine EvOps.nil ?_ | refine EvPlan.nil ?_
   | (with_reducible refine BxO ?_ ?_; · decide)
   )
  all_goals refine lsA (rl := [.cell 6 38, .tmp 7]) rfl (hv := by
      simp only [leaveV, packV, strip, stripAgg, stripCell, List.map_cons, List.map_nil, show cw.grow 29 = true from rfl, show cw.keep 29 = true from rfl, show cw.frz 29 = false from rfl, if_false, if_true, Bool.false_eq_true]
      (try simp (disch := omega) only [hpW, hpA, hw, hpE])
      first | done | rfl)
end Go.Proofs.YtbgalenfbmaceaaGreatDoor.D
