/- The reader: addresses, numbers, texts, operators. -/
import Derived.Test.YtklcmgodhpediaaGreatDoorExLV9
import Derived.Test.YtklcmgodhpediaaGreatDoorExLV7
import Derived.Test.YtklcmgodhpediaaGreatDoorExLP3
set_option linter.unusedSimpArgs false
set_option linter.unusedVariables false
set_option maxRecDepth 100000
namespace Go.Proofs.YtklcmgodhpediaaGreatDoor.L
open Go Go.Vm Go.Proofs Go.Proofs.YtklcmgodhpediaaGreatDoor

def rd (sx : List UInt8) (a : Int) (k : Nat) (l : List Tok) : List (Nat × Ob) :=
  if l.isEmpty then [(0, .cells [.str sx, .int .i64 a, .sl .full []])] else [(k, .tip 4), (0, .cells [.str sx, .int .i64 a, .sl (.own k) (l.map Tok.v)])]
def outR (k : Nat) (l : List Tok) : V := if l.isEmpty then .sl .full [] else .sl (.own k) (l.map Tok.v)
def RdOk (k : Nat) (l : List Tok) : Prop := l.length ≤ 1000000 ∧ (l ≠ [] → k ≠ 0)
theorem rd_get {sx : List UInt8} {a : Int} {k : Nat} {l : List Tok} (h : RdOk k l) : hget (rd sx a k l) 0 = some (.cells [.str sx, .int .i64 a, outR k l]) := by
  cases l with
  | nil => rfl
  | cons t l =>
    have h0 : (k == 0) = false := by simpa using h.2 (by simp)
    show hget [(k, .tip 4), (0, _)] 0 = _
    simp only [hget, h0]
    rfl
theorem rd_drop (sx : List UInt8) (a : Int) (k : Nat) (l : List Tok) : hdrop (k + 1) (rd sx a k l) = rd sx a k l := by
  cases l with
  | nil =>
    show hdrop (k + 1) [(0, _)] = _
    simp only [hdrop]
    rw [if_neg (by omega)]; rfl
  | cons t l =>
    show hdrop (k + 1) [(k, .tip 4), (0, _)] = _
    simp only [hdrop]
    rw [if_neg (by omega)]; rfl
theorem RdOk.next {k : Nat} {l : List Tok} (h : RdOk k l) (h2 : l.length < 1000000) (t : Tok) : RdOk (k + 1) (l ++ [t]) := ⟨by simp; omega, fun _ => by omega⟩
theorem takeR (sx : List UInt8) (a kd sz nm : Int) (tx : List UInt8) (k : Nat) (l : List Tok) (hr : RdOk k l) (ha : 0 ≤ a) (ha2 : a ≤ 1000000) (hz : 0 ≤ sz) (hz2 : sz ≤ 1000000) :
    FnS cx 54 [.ptr 0 0, .int .i64 kd, .int .i64 sz, .str tx, .int .u64 nm] ⟨rd sx a k l, k + 1⟩ (.tup []) ⟨rd sx (a + sz) (k + 1) (l ++ [⟨kd, tx, nm, a⟩]), k + 2⟩ := by
  cases l with
  | nil => exact take0 sx a kd sz nm tx k ha ha2 hz hz2
  | cons t l => exact take1 sx a kd sz nm tx k (t :: l) hr.1 (by simp) (hr.2 (by simp)) ha ha2 hz hz2

theorem endsU_drop (s : List UInt8) (i : Nat) : decide (endsB s i) = endsU (s.drop i) := by
  have key : endsB s i ↔ endsU (s.drop i) = true := by
    by_cases h : s.length ≤ i
    · rw [List.drop_of_length_le h]; exact ⟨fun _ => rfl, fun _ => .inl h⟩
    · have e : s.drop i = s.getD i 0 :: s.drop (i + 1) := by rw [List.drop_eq_getElem_cons (by omega)]; simp [Nat.lt_of_not_le h]
      rw [e]
      show endsB s i ↔ (!decide (letP (s.getD i 0).toNat ∨ digP (s.getD i 0).toNat)) = true
      rw [Bool.not_eq_true', decide_eq_false_iff_not]
      exact ⟨fun x => x.resolve_left h, .inr⟩
  by_cases h : endsB s i
  · rw [decide_eq_true h, key.1 h]
  · rw [decide_eq_false h]
    cases hx : endsU (s.drop i)
    · rfl
    · exact absurd (key.2 hx) h
theorem addrF_succ (u : List UInt8) (n : Nat) : addrF u (n + 1) = match addrR (u.take (n + 1)) with
    | some a => if endsU (u.drop (n + 1)) then some (n + 1, a) else addrF u n
    | none => addrF u n := rfl
theorem partsR_lt {base M : Nat} : ∀ {l : List (List UInt8)} {x y : Nat}, partsR base M x l = some y → 0 < M → x < M → y < M
  | [], x, y, h, _, hx => by simp only [partsR, Option.some.injEq] at h; omega
  | p :: l, x, y, h, hM, hx => by
    simp only [partsR, Option.bind_eq_some_iff] at h
    obtain ⟨n, _, h⟩ := h
    exact partsR_lt h hM (Nat.mod_lt _ hM)
theorem addrR_lt {s : List UInt8} {x : Nat} (h : addrR s = some x) : x < 4294967296 := by
  unfold addrR at h
  rw [Option.bind_eq_some_iff] at h
  obtain ⟨y, hy, h⟩ := h
  split at h
  · cases h; exact partsR_lt hy (by decide) (by decide)
  · cases h

set_option linter.unusedSectionVars false
section
variable (sx : List UInt8) (hs : sx.length ≤ 4096) (a k : Nat) (ha : a ≤ sx.length) (l : List Tok) (hr : RdOk k l) (hl : l.length < 1000000)
include hs ha hr hl
set_option maxHeartbeats 8000000 in
theorem macM1 (m : Nat) (hm : macT (sx.drop a) = some m) : FnS cx 47 [.ptr 0 0] ⟨rd sx a k l, k + 1⟩ (.bool true) ⟨rd sx ((a : Int) + 17) (k + 1) (l ++ [⟨3, (sx.drop a).take 17, m, a⟩]), k + 2⟩ := by
  have hg := rd_get (sx := sx) (a := (a : Int)) hr
  have hd := rd_drop sx (a : Int) k l
  have hends : ∀ (i : Nat) st', i ≤ sx.length → st' = (⟨rd sx a k l, k + 1⟩ : St) → FnS cx 75 [.ptr 0 0, .int .i64 i] st' (.bool (endsU (sx.drop i))) st' := fun i st' h e => by
    subst e
    have := endsS sx (by omega) (.int .i64 (a : Int)) (outR k l) (rd sx a k l) (k + 1) hg hd i (by omega)
    rw [endsU_drop] at this
    exact this
  obtain ⟨m1, m2, m3⟩ := macT_len hm
  have hlen : a + 17 ≤ sx.length := by rw [List.length_drop] at m1; omega
  have t17 : ((a : Int) + 17).toNat = a + 17 := by omega
  have e17 : (sx.take (a + 17)).drop a = (sx.drop a).take 17 := by rw [List.drop_take, Nat.add_sub_cancel_left]
  have hmac : ∀ st, FnS cx 74 [.str ((sx.drop a).take 17)] st (.tup [.int .u64 m, .bool true]) st := fun st => by have := macS ((sx.drop a).take 17) (by rw [List.length_take]; omega) st; rw [m2] at this; exact this
  have hend : ∀ st', st' = (⟨rd sx a k l, k + 1⟩ : St) → FnS cx 75 [.ptr 0 0, .int .i64 ((a : Int) + 17)] st' (.bool true) st' := fun st' e => by
    have := hends (a + 17) st' hlen e
    rw [← List.drop_drop, m3] at this
    exact this
  refine goS Tryz.func47 rfl rfl rfl rfl ?_
  intro t ht
  have a0 : tget t 0 = .ptr 0 0 := ht 0 _ rfl
  clear ht
  have ex := And.intro @a0 (And.intro @hg (And.intro @t17 @e17))
  repeat' (first
   | (with_reducible refine isO ?_); first | refine mvA (h := ?_) | refine asA (h := ?_) | refine quA (h := ?_) | refine caA (hc := hmac _) (h := ?_) | refine caA (hc := hend _ rfl) (h := ?_) | refine caA (hc := takeR sx _ _ _ _ _ k l hr (by omega) (by omega) (by omega) (by omega)) (h := ?_)
   | (with_reducible refine isG ?_); first | refine stA (h := ?_) | refine srA (h := ?_) | refine swA (h := ?_) | refine s1A (h := ?_) | refine s0A (h := ?_) | refine sgA (h1 := fun _ => ?_) (h0 := fun _ => ?_) | refine sbA (h1 := fun _ => ?_) (h0 := fun _ => ?_)
   | (with_reducible refine isP ?_); first | refine dqA (h := ?_)
   | (with_reducible refine isC ?_); first | refine ctA (h := ?_) | refine cfA (h := ?_) | refine cdA (h1 := fun _ => ?_) (h0 := fun _ => ?_) | refine cbA (h1 := fun _ => ?_) (h0 := fun _ => ?_)
   | (with_reducible refine isR ?_); first
     | refine Ev.drawn (by decide +kernel) (l := [0, 1, 2, 3, 4, 5, 6, 7, 8, 9, 10]) (by decide +kernel) ?_
     | refine Ev.drawn (by decide +kernel) (l := [0, 1, 2, 3, 4, 5, 6, 7, 8, 9, 10, 11, 12, 13, 14]) (by decide +kernel) ?_
   | with_reducible first | refine Ev.seq ?_ | refine Ev.ops ?_ | refine NxE ?_ | refine BxN ?_ | refine BxX ?_ | refine NxX ?_ | refine NxR ?_ | refine BxR ?_ | refine Ev.block ?_ | refine Ev.skip ?_ | refine Ev.exit ?_ | refine Ev.ret ?_ | refine EvOps.nil ?_ | refine EvPlan.nil ?_
   | (with_reducible refine BxO ?_ ?_; · decide)
   )
  all_goals refine lsA (rl := [.tmp 2]) rfl (hv := by
      simp only [leaveV, packV, strip, stripAgg, stripCell, hdrop, Nat.reduceLeDiff, List.map_cons, List.map_nil, show cx.grow 47 = false from rfl, show cx.keep 47 = true from rfl, show cx.frz 47 = false from rfl, if_false, if_true, Bool.false_eq_true]
      (first | done | rfl))

set_option maxHeartbeats 8000000 in
theorem macM0 (hm : macT (sx.drop a) = none) : FnS cx 47 [.ptr 0 0] ⟨rd sx a k l, k + 1⟩ (.bool false) ⟨rd sx a k l, k + 1⟩ := by
  have hg := rd_get (sx := sx) (a := (a : Int)) hr
  have hd := rd_drop sx (a : Int) k l
  have hends : ∀ (i : Nat) st', i ≤ sx.length → st' = (⟨rd sx a k l, k + 1⟩ : St) → FnS cx 75 [.ptr 0 0, .int .i64 i] st' (.bool (endsU (sx.drop i))) st' := fun i st' h e => by
    subst e
    have := endsS sx (by omega) (.int .i64 (a : Int)) (outR k l) (rd sx a k l) (k + 1) hg hd i (by omega)
    rw [endsU_drop] at this
    exact this
  by_cases hlen : sx.length < a + 17
  · skip
    refine goS Tryz.func47 rfl rfl rfl rfl ?_
    intro t ht
    have a0 : tget t 0 = .ptr 0 0 := ht 0 _ rfl
    clear ht
    have ex := And.intro @a0 @hg
    repeat' (first
     | (with_reducible refine isO ?_); first | refine mvA (h := ?_) | refine asA (h := ?_) | refine quA (h := ?_)
     | (with_reducible refine isG ?_); first | refine stA (h := ?_) | refine srA (h := ?_) | refine swA (h := ?_) | refine s1A (h := ?_) | refine s0A (h := ?_) | refine sgA (h1 := fun _ => ?_) (h0 := fun _ => ?_) | refine sbA (h1 := fun _ => ?_) (h0 := fun _ => ?_)
     | (with_reducible refine isP ?_); first | refine dqA (h := ?_)
     | (with_reducible refine isC ?_); first | refine ctA (h := ?_) | refine cfA (h := ?_) | refine cdA (h1 := fun _ => ?_) (h0 := fun _ => ?_) | refine cbA (h1 := fun _ => ?_) (h0 := fun _ => ?_)
     | (with_reducible refine isR ?_); first
       | refine Ev.drawn (by decide +kernel) (l := [0, 1, 2, 3, 4, 5, 6, 7, 8, 9, 10]) (by decide +kernel) ?_
       | refine Ev.drawn (by decide +kernel) (l := [0, 1, 2, 3, 4, 5, 6, 7, 8, 9, 10, 11, 12, 13, 14]) (by decide +kernel) ?_
     | with_reducible first | refine Ev.seq ?_ | refine Ev.ops ?_ | refine NxE ?_ | refine BxN ?_ | refine BxX ?_ | refine NxX ?_ | refine NxR ?_ | refine BxR ?_ | refine Ev.block ?_ | refine Ev.skip ?_ | refine Ev.exit ?_ | refine Ev.ret ?_ | refine EvOps.nil ?_ | refine EvPlan.nil ?_
     | (with_reducible refine BxO ?_ ?_; · decide)
     )
    all_goals first
      | (exfalso; omega)
      | refine lsA (rl := [.tmp 2]) rfl (hv := by
      simp only [leaveV, packV, strip, stripAgg, stripCell, hdrop, Nat.reduceLeDiff, List.map_cons, List.map_nil, show cx.grow 47 = false from rfl, show cx.keep 47 = true from rfl, show cx.frz 47 = false from rfl, if_false, if_true, Bool.false_eq_true]
      (first | done | rfl))
  have t17 : ((a : Int) + 17).toNat = a + 17 := by omega
  have e17 : (sx.take (a + 17)).drop a = (sx.drop a).take 17 := by rw [List.drop_take, Nat.add_sub_cancel_left]
  unfold macT at hm
  rw [if_neg (by rw [List.length_drop]; omega)] at hm
  cases hR : macR ((sx.drop a).take 17) with
  | none =>
    have hmac : ∀ st, FnS cx 74 [.str ((sx.drop a).take 17)] st (.tup [.int .u64 0, .bool false]) st := fun st => by have := macS ((sx.drop a).take 17) (by rw [List.length_take]; omega) st; rw [hR] at this; exact this
    refine goS Tryz.func47 rfl rfl rfl rfl ?_
    intro t ht
    have a0 : tget t 0 = .ptr 0 0 := ht 0 _ rfl
    clear ht
    have ex := And.intro @a0 (And.intro @hg (And.intro @t17 @e17))
    repeat' (first
     | (with_reducible refine isO ?_); first | refine mvA (h := ?_) | refine asA (h := ?_) | refine quA (h := ?_) | refine caA (hc := hmac _) (h := ?_)
     | (with_reducible refine isG ?_); first | refine stA (h := ?_) | refine srA (h := ?_) | refine swA (h := ?_) | refine s1A (h := ?_) | refine s0A (h := ?_) | refine sgA (h1 := fun _ => ?_) (h0 := fun _ => ?_) | refine sbA (h1 := fun _ => ?_) (h0 := fun _ => ?_)
     | (with_reducible refine isP ?_); first | refine dqA (h := ?_)
     | (with_reducible refine isC ?_); first | refine ctA (h := ?_) | refine cfA (h := ?_) | refine cdA (h1 := fun _ => ?_) (h0 := fun _ => ?_) | refine cbA (h1 := fun _ => ?_) (h0 := fun _ => ?_)
     | (with_reducible refine isR ?_); first
       | refine Ev.drawn (by decide +kernel) (l := [0, 1, 2, 3, 4, 5, 6, 7, 8, 9, 10]) (by decide +kernel) ?_
       | refine Ev.drawn (by decide +kernel) (l := [0, 1, 2, 3, 4, 5, 6, 7, 8, 9, 10, 11, 12, 13, 14]) (by decide +kernel) ?_
     | with_reducible first | refine Ev.seq ?_ | refine Ev.ops ?_ | refine NxE ?_ | refine BxN ?_ | refine BxX ?_ | refine NxX ?_ | refine NxR ?_ | refine BxR ?_ | refine Ev.block ?_ | refine Ev.skip ?_ | refine Ev.exit ?_ | refine Ev.ret ?_ | refine EvOps.nil ?_ | refine EvPlan.nil ?_
     | (with_reducible refine BxO ?_ ?_; · decide)
     )
    all_goals first
      | (exfalso; omega)
      | refine lsA (rl := [.tmp 2]) rfl (hv := by
      simp only [leaveV, packV, strip, stripAgg, stripCell, hdrop, Nat.reduceLeDiff, List.map_cons, List.map_nil, show cx.grow 47 = false from rfl, show cx.keep 47 = true from rfl, show cx.frz 47 = false from rfl, if_false, if_true, Bool.false_eq_true]
      (first | done | rfl))
  | some m =>
    have hmac : ∀ st, FnS cx 74 [.str ((sx.drop a).take 17)] st (.tup [.int .u64 m, .bool true]) st := fun st => by have := macS ((sx.drop a).take 17) (by rw [List.length_take]; omega) st; rw [hR] at this; exact this
    have hen : endsU (sx.drop (a + 17)) = false := by
      rw [hR, Option.bind_some, List.drop_drop] at hm
      cases h : endsU (sx.drop (a + 17))
      · rfl
      · rw [h] at hm; simp at hm
    have hend : ∀ st', st' = (⟨rd sx a k l, k + 1⟩ : St) → FnS cx 75 [.ptr 0 0, .int .i64 ((a : Int) + 17)] st' (.bool false) st' := fun st' e => by
      have := hends (a + 17) st' (by omega) e
      rw [hen] at this
      exact this
    refine goS Tryz.func47 rfl rfl rfl rfl ?_
    intro t ht
    have a0 : tget t 0 = .ptr 0 0 := ht 0 _ rfl
    clear ht
    have ex := And.intro @a0 (And.intro @hg (And.intro @t17 @e17))
    repeat' (first
     | (with_reducible refine isO ?_); first | refine mvA (h := ?_) | refine asA (h := ?_) | refine quA (h := ?_) | refine caA (hc := hmac _) (h := ?_) | refine caA (hc := hend _ rfl) (h := ?_)
     | (with_reducible refine isG ?_); first | refine stA (h := ?_) | refine srA (h := ?_) | refine swA (h := ?_) | refine s1A (h := ?_) | refine s0A (h := ?_) | refine sgA (h1 := fun _ => ?_) (h0 := fun _ => ?_) | refine sbA (h1 := fun _ => ?_) (h0 := fun _ => ?_)
     | (with_reducible refine isP ?_); first | refine dqA (h := ?_)
     | (with_reducible refine isC ?_); first | refine ctA (h := ?_) | refine cfA (h := ?_) | refine cdA (h1 := fun _ => ?_) (h0 := fun _ => ?_) | refine cbA (h1 := fun _ => ?_) (h0 := fun _ => ?_)
     | (with_reducible refine isR ?_); first
       | refine Ev.drawn (by decide +kernel) (l := [0, 1, 2, 3, 4, 5, 6, 7, 8, 9, 10]) (by decide +kernel) ?_
       | refine Ev.drawn (by decide +kernel) (l := [0, 1, 2, 3, 4, 5, 6, 7, 8, 9, 10, 11, 12, 13, 14]) (by decide +kernel) ?_
     | with_reducible first | refine Ev.seq ?_ | refine Ev.ops ?_ | refine NxE ?_ | refine BxN ?_ | refine BxX ?_ | refine NxX ?_ | refine NxR ?_ | refine BxR ?_ | refine Ev.block ?_ | refine Ev.skip ?_ | refine Ev.exit ?_ | refine Ev.ret ?_ | refine EvOps.nil ?_ | refine EvPlan.nil ?_
     | (with_reducible refine BxO ?_ ?_; · decide)
     )
    all_goals first
      | (exfalso; omega)
      | refine lsA (rl := [.tmp 2]) rfl (hv := by
      simp only [leaveV, packV, strip, stripAgg, stripCell, hdrop, Nat.reduceLeDiff, List.map_cons, List.map_nil, show cx.grow 47 = false from rfl, show cx.keep 47 = true from rfl, show cx.frz 47 = false from rfl, if_false, if_true, Bool.false_eq_true]
      (first | done | rfl))

set_option maxHeartbeats 8000000 in
theorem addrM : FnS cx 48 [.ptr 0 0] ⟨rd sx a k l, k + 1⟩ (.bool (addrT (sx.drop a)).isSome) (match addrT (sx.drop a) with | some (n, x) => ⟨rd sx ((a : Int) + n) (k + 1) (l ++ [⟨4, (sx.drop a).take n, x, a⟩]), k + 2⟩ | none => ⟨rd sx a k l, k + 1⟩) := by
  have hg := rd_get (sx := sx) (a := (a : Int)) hr
  have hd := rd_drop sx (a : Int) k l
  have hends : ∀ (i : Nat) st', i ≤ sx.length → st' = (⟨rd sx a k l, k + 1⟩ : St) → FnS cx 75 [.ptr 0 0, .int .i64 i] st' (.bool (endsU (sx.drop i))) st' := fun i st' h e => by
    subst e
    have := endsS sx (by omega) (.int .i64 (a : Int)) (outR k l) (rd sx a k l) (k + 1) hg hd i (by omega)
    rw [endsU_drop] at this
    exact this
  have hspan : ∀ {f : Nat} {p : Int → Prop} [DecidablePred p] (hp : ∀ c st, FnS cx f [.int .u8 c] st (.bool (decide (p c))) st) (i : Nat) (st' : St), i ≤ 1000000 → st' = (⟨rd sx a k l, k + 1⟩ : St) → FnS cx 45 [.ptr 0 0, .int .i64 i, .func (.func f) [] []] st' (.int .i64 (spanU p (sx.drop i))) st' := fun {f p} _ hp i st' hi e => by
    subst e
    exact spanS hp sx (by omega) (.int .i64 (a : Int)) (outR k l) (rd sx a k l) (k + 1) hg hd i hi
  have hsp : ∀ st', st' = (⟨rd sx a k l, k + 1⟩ : St) → FnS cx 45 [.ptr 0 0, .int .i64 a, .func (.func 76) [] []] st' (.int .i64 (spanU dotP (sx.drop a))) st' := fun st' e => hspan (p := dotP) (fun c st => dotsS c st) a st' (by omega) e
  have hN := spanU_le (p := dotP) (sx.drop a)
  rw [List.length_drop] at hN
  unfold addrT
  generalize spanU dotP (sx.drop a) = N at *
  refine goS Tryz.func48 rfl rfl rfl rfl ?_
  intro t ht
  have a0 : tget t 0 = .ptr 0 0 := ht 0 _ rfl
  clear ht
  have ex := And.intro @a0 @hg
  repeat' (first
   | (with_reducible refine isO ?_); first | refine mvA (h := ?_) | refine asA (h := ?_) | refine quA (h := ?_) | refine caA (hc := hsp _ rfl) (h := ?_)
   | (with_reducible refine isG ?_); first | refine stA (h := ?_) | refine srA (h := ?_) | refine swA (h := ?_) | refine s1A (h := ?_) | refine s0A (h := ?_) | refine sgA (h1 := fun _ => ?_) (h0 := fun _ => ?_) | refine sbA (h1 := fun _ => ?_) (h0 := fun _ => ?_)
   | (with_reducible refine isP ?_); first | refine dqA (h := ?_)
   | (with_reducible refine isC ?_); first | refine ctA (h := ?_) | refine cfA (h := ?_) | refine cdA (h1 := fun _ => ?_) (h0 := fun _ => ?_) | refine cbA (h1 := fun _ => ?_) (h0 := fun _ => ?_)
   | (with_reducible refine isR ?_); first
     | refine Ev.drawn (by decide +kernel) (l := [0, 1, 2, 3, 4, 5, 6, 7, 8, 9, 10, 11, 12, 13, 14, 15]) (by decide +kernel) ?_
   | with_reducible first | refine Ev.seq ?_ | refine Ev.ops ?_ | refine NxE ?_ | refine BxN ?_ | refine BxX ?_ | refine NxX ?_ | refine NxR ?_ | refine BxR ?_ | refine Ev.block ?_ | refine Ev.skip ?_ | refine Ev.exit ?_ | refine Ev.ret ?_ | refine EvOps.nil ?_ | refine EvPlan.nil ?_
   | (with_reducible refine BxO ?_ ?_; · decide)
   )
  refine loopT (fun r t st => ∃ n : Nat, r = n ∧ n ≤ N ∧ addrF (sx.drop a) N = addrF (sx.drop a) n ∧ tget t 0 = .ptr 0 0 ∧ tget t 4 = .int .i64 n ∧ st = ⟨rd sx a k l, k + 1⟩) (n := N) ?_ ?_
  · refine ⟨N, rfl, Nat.le_refl _, rfl, ?_, ?_, rfl⟩
    · simp only [↓evP, ↓tgP, ↓reduceIte, Nat.reduceEqDiff, reduceCtorEq, List.map_cons, List.map_nil, List.nil_append, List.append_nil, List.toList_toArray, a0]
    · simp only [↓evP, ↓tgP, ↓reduceIte, Nat.reduceEqDiff, reduceCtorEq, List.map_cons, List.map_nil, List.nil_append, List.append_nil, List.toList_toArray, a0]
  rintro r t st ⟨n, rfl, hn, he, c0, c4, rfl⟩
  cases r with
  | zero =>
    have c4 : tget t 4 = .int .i64 0 := c4
    have hz : addrF (sx.drop a) N = none := he
    rw [hz]
    have ex := And.intro @c0 (And.intro @c4 @hg)
    repeat' (first
     | (with_reducible refine isO ?_); first | refine mvA (h := ?_) | refine asA (h := ?_) | refine quA (h := ?_)
     | (with_reducible refine isG ?_); first | refine stA (h := ?_) | refine srA (h := ?_) | refine swA (h := ?_) | refine s1A (h := ?_) | refine s0A (h := ?_) | refine sgA (h1 := fun _ => ?_) (h0 := fun _ => ?_) | refine sbA (h1 := fun _ => ?_) (h0 := fun _ => ?_)
     | (with_reducible refine isP ?_); first | refine dqA (h := ?_)
     | (with_reducible refine isC ?_); first | refine ctA (h := ?_) | refine cfA (h := ?_) | refine cdA (h1 := fun _ => ?_) (h0 := fun _ => ?_) | refine cbA (h1 := fun _ => ?_) (h0 := fun _ => ?_)
     | (with_reducible refine isR ?_); first
       | refine Ev.drawn (by decide +kernel) (l := [0, 1, 2, 3, 4, 5, 6, 7, 8, 9, 10, 11, 12, 13, 14, 15]) (by decide +kernel) ?_
     | with_reducible first | refine Ev.seq ?_ | refine Ev.ops ?_ | refine NxE ?_ | refine BxN ?_ | refine BxX ?_ | refine NxX ?_ | refine NxR ?_ | refine BxR ?_ | refine Ev.block ?_ | refine Ev.skip ?_ | refine Ev.exit ?_ | refine Ev.ret ?_ | refine EvOps.nil ?_ | refine EvPlan.nil ?_
     | (with_reducible refine BxO ?_ ?_; · decide)
     )
    all_goals first
      | refine lsA (rl := [.tmp 2]) rfl (hv := by
      simp only [leaveV, packV, strip, stripAgg, stripCell, hdrop, Nat.reduceLeDiff, List.map_cons, List.map_nil, show cx.grow 48 = false from rfl, show cx.keep 48 = true from rfl, show cx.frz 48 = false from rfl, if_false, if_true, Bool.false_eq_true]
      (first | done | rfl))
  | succ m =>
    have c4 : tget t 4 = .int .i64 ((m : Int) + 1) := c4
    have tn : ((a : Int) + ((m : Int) + 1)).toNat = a + (m + 1) := by omega
    have en : (sx.take (a + (m + 1))).drop a = (sx.drop a).take (m + 1) := by rw [List.drop_take, Nat.add_sub_cancel_left]
    have eN : ((m : Int) + 1 - 1) = m := by omega
    cases hR : addrR ((sx.drop a).take (m + 1)) with
    | none =>
      have hF : addrF (sx.drop a) N = addrF (sx.drop a) m := by rw [he]; rw [addrF_succ, hR]
      have hadr : ∀ st, FnS cx 77 [.str ((sx.drop a).take (m + 1))] st (.tup [.int .u32 0, .bool false]) st := fun st => by have := addrS ((sx.drop a).take (m + 1)) (by rw [List.length_take]; omega) st; rw [hR] at this; exact this
      have ex := And.intro @c0 (And.intro @c4 (And.intro @hg (And.intro @tn (And.intro @en @eN))))
      repeat' (first
       | (with_reducible refine isO ?_); first | refine mvA (h := ?_) | refine asA (h := ?_) | refine quA (h := ?_) | refine caA (hc := hadr _) (h := ?_)
       | (with_reducible refine isG ?_); first | refine stA (h := ?_) | refine srA (h := ?_) | refine swA (h := ?_) | refine s1A (h := ?_) | refine s0A (h := ?_) | refine sgA (h1 := fun _ => ?_) (h0 := fun _ => ?_) | refine sbA (h1 := fun _ => ?_) (h0 := fun _ => ?_)
       | (with_reducible refine isP ?_); first | refine dqA (h := ?_)
       | (with_reducible refine isC ?_); first | refine ctA (h := ?_) | refine cfA (h := ?_) | refine cdA (h1 := fun _ => ?_) (h0 := fun _ => ?_) | refine cbA (h1 := fun _ => ?_) (h0 := fun _ => ?_)
       | (with_reducible refine isR ?_); first
         | refine Ev.drawn (by decide +kernel) (l := [0, 1, 2, 3, 4, 5, 6, 7, 8, 9, 10, 11, 12, 13, 14, 15]) (by decide +kernel) ?_
       | with_reducible first | refine Ev.seq ?_ | refine Ev.ops ?_ | refine NxE ?_ | refine BxN ?_ | refine BxX ?_ | refine NxX ?_ | refine NxR ?_ | refine BxR ?_ | refine Ev.block ?_ | refine Ev.skip ?_ | refine Ev.exit ?_ | refine Ev.ret ?_ | refine EvOps.nil ?_ | refine EvPlan.nil ?_
       | (with_reducible refine BxO ?_ ?_; · decide)
       )
      all_goals first
        | (exfalso; omega)
        | (refine ⟨m, by omega, rfl, m, rfl, by omega, hF, ?_, ?_, rfl⟩ <;> simp only [↓evP, ↓tgP, ↓reduceIte, Nat.reduceEqDiff, reduceCtorEq, List.map_cons, List.map_nil, List.nil_append, List.append_nil, List.toList_toArray, c0, c4, eN] <;> first | done | rfl | (congr 1; omega))
    | some x =>
      have hx := addrR_lt hR
      cases hE : endsU (sx.drop (a + (m + 1))) with
      | false =>
        have hF : addrF (sx.drop a) N = addrF (sx.drop a) m := by rw [he]; rw [addrF_succ, hR]; dsimp only; rw [List.drop_drop, hE]; rfl
        have hadr : ∀ st, FnS cx 77 [.str ((sx.drop a).take (m + 1))] st (.tup [.int .u32 x, .bool true]) st := fun st => by have := addrS ((sx.drop a).take (m + 1)) (by rw [List.length_take]; omega) st; rw [hR] at this; exact this
        have hend : ∀ st', st' = (⟨rd sx a k l, k + 1⟩ : St) → FnS cx 75 [.ptr 0 0, .int .i64 ((a : Int) + ((m : Int) + 1))] st' (.bool false) st' := fun st' e => by
          have := hends (a + (m + 1)) st' (by omega) e
          rw [hE] at this
          exact this
        have ex := And.intro @c0 (And.intro @c4 (And.intro @hg (And.intro @tn (And.intro @en @eN))))
        repeat' (first
         | (with_reducible refine isO ?_); first | refine mvA (h := ?_) | refine asA (h := ?_) | refine quA (h := ?_) | refine caA (hc := hadr _) (h := ?_) | refine caA (hc := hend _ rfl) (h := ?_)
         | (with_reducible refine isG ?_); first | refine stA (h := ?_) | refine srA (h := ?_) | refine swA (h := ?_) | refine s1A (h := ?_) | refine s0A (h := ?_) | refine sgA (h1 := fun _ => ?_) (h0 := fun _ => ?_) | refine sbA (h1 := fun _ => ?_) (h0 := fun _ => ?_)
         | (with_reducible refine isP ?_); first | refine dqA (h := ?_)
         | (with_reducible refine isC ?_); first | refine ctA (h := ?_) | refine cfA (h := ?_) | refine cdA (h1 := fun _ => ?_) (h0 := fun _ => ?_) | refine cbA (h1 := fun _ => ?_) (h0 := fun _ => ?_)
         | (with_reducible refine isR ?_); first
           | refine Ev.drawn (by decide +kernel) (l := [0, 1, 2, 3, 4, 5, 6, 7, 8, 9, 10, 11, 12, 13, 14, 15]) (by decide +kernel) ?_
         | with_reducible first | refine Ev.seq ?_ | refine Ev.ops ?_ | refine NxE ?_ | refine BxN ?_ | refine BxX ?_ | refine NxX ?_ | refine NxR ?_ | refine BxR ?_ | refine Ev.block ?_ | refine Ev.skip ?_ | refine Ev.exit ?_ | refine Ev.ret ?_ | refine EvOps.nil ?_ | refine EvPlan.nil ?_
         | (with_reducible refine BxO ?_ ?_; · decide)
         )
        all_goals first
          | (exfalso; omega)
          | (refine ⟨m, by omega, rfl, m, rfl, by omega, hF, ?_, ?_, rfl⟩ <;> simp only [↓evP, ↓tgP, ↓reduceIte, Nat.reduceEqDiff, reduceCtorEq, List.map_cons, List.map_nil, List.nil_append, List.append_nil, List.toList_toArray, c0, c4, eN] <;> first | done | rfl | (congr 1; omega))
      | true =>
        have hF : addrF (sx.drop a) N = some (m + 1, x) := by rw [he]; rw [addrF_succ, hR]; dsimp only; rw [List.drop_drop, hE]; rfl
        rw [hF]
        have hadr : ∀ st, FnS cx 77 [.str ((sx.drop a).take (m + 1))] st (.tup [.int .u32 x, .bool true]) st := fun st => by have := addrS ((sx.drop a).take (m + 1)) (by rw [List.length_take]; omega) st; rw [hR] at this; exact this
        have hend : ∀ st', st' = (⟨rd sx a k l, k + 1⟩ : St) → FnS cx 75 [.ptr 0 0, .int .i64 ((a : Int) + ((m : Int) + 1))] st' (.bool true) st' := fun st' e => by
          have := hends (a + (m + 1)) st' (by omega) e
          rw [hE] at this
          exact this
        have ex := And.intro @c0 (And.intro @c4 (And.intro @hg (And.intro @tn (And.intro @en @eN))))
        repeat' (first
         | (with_reducible refine isO ?_); first | refine mvA (h := ?_) | refine asA (h := ?_) | refine quA (h := ?_) | refine caA (hc := hadr _) (h := ?_) | refine caA (hc := hend _ rfl) (h := ?_) | refine caA (hc := takeR sx _ _ _ _ _ k l hr (by omega) (by omega) (by omega) (by omega)) (h := ?_)
         | (with_reducible refine isG ?_); first | refine stA (h := ?_) | refine srA (h := ?_) | refine swA (h := ?_) | refine s1A (h := ?_) | refine s0A (h := ?_) | refine sgA (h1 := fun _ => ?_) (h0 := fun _ => ?_) | refine sbA (h1 := fun _ => ?_) (h0 := fun _ => ?_)
         | (with_reducible refine isP ?_); first | refine dqA (h := ?_)
         | (with_reducible refine isC ?_); first | refine ctA (h := ?_) | refine cfA (h := ?_) | refine cdA (h1 := fun _ => ?_) (h0 := fun _ => ?_) | refine cbA (h1 := fun _ => ?_) (h0 := fun _ => ?_)
         | (with_reducible refine isR ?_); first
           | refine Ev.drawn (by decide +kernel) (l := [0, 1, 2, 3, 4, 5, 6, 7, 8, 9, 10, 11, 12, 13, 14, 15]) (by decide +kernel) ?_
         | with_reducible first | refine Ev.seq ?_ | refine Ev.ops ?_ | refine NxE ?_ | refine BxN ?_ | refine BxX ?_ | refine NxX ?_ | refine NxR ?_ | refine BxR ?_ | refine Ev.block ?_ | refine Ev.skip ?_ | refine Ev.exit ?_ | refine Ev.ret ?_ | refine EvOps.nil ?_ | refine EvPlan.nil ?_
         | (with_reducible refine BxO ?_ ?_; · decide)
         )
        all_goals first
          | (exfalso; omega)
          | refine lsA (rl := [.tmp 2]) rfl (hv := by
      simp only [leaveV, packV, strip, stripAgg, stripCell, hdrop, Nat.reduceLeDiff, List.map_cons, List.map_nil, show cx.grow 48 = false from rfl, show cx.keep 48 = true from rfl, show cx.frz 48 = false from rfl, if_false, if_true, Bool.false_eq_true]
      (first | done | rfl))

end
end Go.Proofs.YtklcmgodhpediaaGreatDoor.L
