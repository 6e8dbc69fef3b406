/- The parser's configuration, and its types; its memory. -/
import Derived.Test.YtklcmgodhpediaaGreatDoorExS6
import Derived.Test.YtklcmgodhpediaaGreatDoorExLV13
set_option linter.unusedSimpArgs false
set_option linter.unusedVariables false
set_option maxRecDepth 100000
namespace Go.Proofs.YtklcmgodhpediaaGreatDoor.K
open Go Go.Vm Go.Proofs Go.Proofs.YtklcmgodhpediaaGreatDoor

def innerK (k : FuncId) : Bool := [27, 28, 57, 58, 64, 83, 84, 103, 104, 107, 157, 159, 160, 181].contains k
noncomputable def cx : Cfg :=
  { YtklcmgodhpediaaGreatDoor.cx with keep := fun k => k == 28 || k == 64, grow := fun _ => false, pure := fun k => !innerK k }
theorem cx_ok : COk cx := ⟨fun t ht => (by cases ht), YtklcmgodhpediaaGreatDoor.cx_ok.funcs, YtklcmgodhpediaaGreatDoor.cx_ok.mixed, YtklcmgodhpediaaGreatDoor.cx_ok.inv⟩
theorem glob_pure : GlobPure cx := fun _ => rfl
theorem libs_ok : XOk cx := by
  intro k args st v st' h
  have e : st' = st := by
    have : (known k args).map (fun v => (v, st)) = some (v, st') := h
    rw [Option.map_eq_some_iff] at this
    obtain ⟨_, _, e⟩ := this
    cases e; rfl
  subst e
  exact AC.ofFn (C := YtklcmgodhpediaaGreatDoor.cx) (C' := cx) rfl rfl rfl rfl YtklcmgodhpediaaGreatDoor.cx_ok cx_glob YtklcmgodhpediaaGreatDoor.libs_ok (Fn.ofX (v := v) (st' := st') h ⟨rfl, rfl⟩)
theorem tr {k : FuncId} {args : List V} {st st' : St} {v : V} (h : FnS cx k args st v st') : FnS YtklcmgodhpediaaGreatDoor.cx k args st v st' := ⟨h.ex.tr cx_ok glob_pure libs_ok rfl rfl rfl rfl⟩
theorem rt {k : FuncId} {args : List V} {st st' : St} {v : V} (h : FnS YtklcmgodhpediaaGreatDoor.cx k args st v st') : FnS cx k args st v st' := ⟨h.ex.tr YtklcmgodhpediaaGreatDoor.cx_ok cx_glob YtklcmgodhpediaaGreatDoor.libs_ok rfl rfl rfl rfl⟩
theorem tyE0 : cx.P = Tryz.prog ∧ (Tryz.prog.underlying 1 = some (TypeDesc.func #[] #[] false) ∧ Tryz.prog.underlying 3 = some (TypeDesc.int IntKind.i64) ∧ Tryz.prog.underlying 4 = some TypeDesc.bool ∧ Tryz.prog.underlying 9 = some TypeDesc.string ∧ Tryz.prog.underlying 22 = some (TypeDesc.int IntKind.u64) ∧ Tryz.prog.underlying 23 = some (TypeDesc.slice 25) ∧ Tryz.prog.underlying 28 = some (TypeDesc.int IntKind.u32) ∧ Tryz.prog.underlying 37 = some (TypeDesc.array 4 28) ∧ Tryz.prog.underlying 44 = some (TypeDesc.int IntKind.i64) ∧ Tryz.prog.underlying 50 = some (TypeDesc.slice 28) ∧ Tryz.prog.underlying 57 = some (TypeDesc.slice 209) ∧ Tryz.prog.underlying 58 = some (TypeDesc.slice 68) ∧ Tryz.prog.underlying 61 = some (TypeDesc.pointer 65) ∧ Tryz.prog.underlying 66 = some (TypeDesc.func #[] #[25] false) ∧ Tryz.prog.underlying 101 = some (TypeDesc.map 9 3))
  := ⟨rfl, Tryz.underlying1, Tryz.underlying3, Tryz.underlying4, Tryz.underlying9, Tryz.underlying22, Tryz.underlying23, Tryz.underlying28, Tryz.underlying37, Tryz.underlying44, Tryz.underlying50, Tryz.underlying57, Tryz.underlying58, Tryz.underlying61, Tryz.underlying66, Tryz.underlying101⟩
theorem tyS : (szOf cx 1 = some 1 ∧ szOf cx 3 = some 1 ∧ szOf cx 4 = some 1 ∧ szOf cx 9 = some 1 ∧ szOf cx 22 = some 1 ∧ szOf cx 23 = some 1 ∧ szOf cx 25 = some 6 ∧ szOf cx 28 = some 1 ∧ szOf cx 37 = some 4 ∧ szOf cx 41 = some 49 ∧ szOf cx 44 = some 1 ∧ szOf cx 50 = some 1 ∧ szOf cx 57 = some 1 ∧ szOf cx 58 = some 1 ∧ szOf cx 61 = some 1 ∧ szOf cx 63 = some 2 ∧ szOf cx 65 = some 5 ∧ szOf cx 66 = some 1 ∧ szOf cx 68 = some 4 ∧ szOf cx 101 = some 1 ∧ szOf cx 209 = some 2) := by refine ⟨?_, ?_, ?_, ?_, ?_, ?_, ?_, ?_, ?_, ?_, ?_, ?_, ?_, ?_, ?_, ?_, ?_, ?_, ?_, ?_, ?_⟩ <;> decide +kernel
theorem tyX : ((Tryz.prog.underlying 25 = some (TypeDesc.struct #[{ name := "Kind", type := 3, offset := 0, embedded := false, tag := "", pkgPath := "", byteOffset := 0 }, { name := "Field", type := 3, offset := 1, embedded := false, tag := "", pkgPath := "", byteOffset := 8 }, { name := "Op", type := 3, offset := 2, embedded := false, tag := "", pkgPath := "", byteOffset := 16 }, { name := "Value", type := 22, offset := 3, embedded := false, tag := "", pkgPath := "", byteOffset := 24 }, { name := "Mask", type := 22, offset := 4, embedded := false, tag := "", pkgPath := "", byteOffset := 32 }, { name := "Parts", type := 23, offset := 5, embedded := false, tag := "", pkgPath := "", byteOffset := 40 }])) ∧ (Tryz.prog.underlying 41 = some (TypeDesc.struct #[{ name := "P", type := 36, offset := 0, embedded := false, tag := "", pkgPath := "", byteOffset := 0 }, { name := "Ct", type := 3, offset := 36, embedded := false, tag := "", pkgPath := "", byteOffset := 312 }, { name := "Dp", type := 3, offset := 37, embedded := false, tag := "", pkgPath := "", byteOffset := 320 }, { name := "In", type := 3, offset := 38, embedded := false, tag := "", pkgPath := "", byteOffset := 328 }, { name := "Out", type := 3, offset := 39, embedded := false, tag := "", pkgPath := "", byteOffset := 336 }, { name := "Regs", type := 37, offset := 40, embedded := false, tag := "", pkgPath := "", byteOffset := 344 }, { name := "Orig", type := 39, offset := 44, embedded := false, tag := "", pkgPath := "", byteOffset := 360 }])) ∧ (Tryz.prog.underlying 63 = some (TypeDesc.struct #[{ name := "e", type := 44, offset := 0, embedded := false, tag := "", pkgPath := "skein/expr", byteOffset := 0 }, { name := "at", type := 3, offset := 1, embedded := false, tag := "", pkgPath := "skein/expr", byteOffset := 8 }])) ∧ (Tryz.prog.underlying 65 = some (TypeDesc.struct #[{ name := "l", type := 58, offset := 0, embedded := false, tag := "", pkgPath := "skein/expr", byteOffset := 0 }, { name := "names", type := 57, offset := 1, embedded := false, tag := "", pkgPath := "skein/expr", byteOffset := 24 }, { name := "deep", type := 3, offset := 2, embedded := false, tag := "", pkgPath := "skein/expr", byteOffset := 48 }, { name := "f", type := 63, offset := 3, embedded := false, tag := "", pkgPath := "skein/expr", byteOffset := 56 }])) ∧ (Tryz.prog.underlying 68 = some (TypeDesc.struct #[{ name := "Kind", type := 3, offset := 0, embedded := false, tag := "", pkgPath := "", byteOffset := 0 }, { name := "Text", type := 9, offset := 1, embedded := false, tag := "", pkgPath := "", byteOffset := 8 }, { name := "Num", type := 22, offset := 2, embedded := false, tag := "", pkgPath := "", byteOffset := 24 }, { name := "At", type := 3, offset := 3, embedded := false, tag := "", pkgPath := "", byteOffset := 32 }])) ∧ (Tryz.prog.underlying 209 = some (TypeDesc.struct #[{ name := "Text", type := 9, offset := 0, embedded := false, tag := "", pkgPath := "", byteOffset := 0 }, { name := "Num", type := 22, offset := 1, embedded := false, tag := "", pkgPath := "", byteOffset := 16 }]))) := ⟨Tryz.underlying25, Tryz.underlying41, Tryz.underlying63, Tryz.underlying65, Tryz.underlying68, Tryz.underlying209⟩
theorem tyE : (cx.P = Tryz.prog ∧ (Tryz.prog.underlying 1 = some (TypeDesc.func #[] #[] false) ∧ Tryz.prog.underlying 3 = some (TypeDesc.int IntKind.i64) ∧ Tryz.prog.underlying 4 = some TypeDesc.bool ∧ Tryz.prog.underlying 9 = some TypeDesc.string ∧ Tryz.prog.underlying 22 = some (TypeDesc.int IntKind.u64) ∧ Tryz.prog.underlying 23 = some (TypeDesc.slice 25) ∧ Tryz.prog.underlying 28 = some (TypeDesc.int IntKind.u32) ∧ Tryz.prog.underlying 37 = some (TypeDesc.array 4 28) ∧ Tryz.prog.underlying 44 = some (TypeDesc.int IntKind.i64) ∧ Tryz.prog.underlying 50 = some (TypeDesc.slice 28) ∧ Tryz.prog.underlying 57 = some (TypeDesc.slice 209) ∧ Tryz.prog.underlying 58 = some (TypeDesc.slice 68) ∧ Tryz.prog.underlying 61 = some (TypeDesc.pointer 65) ∧ Tryz.prog.underlying 66 = some (TypeDesc.func #[] #[25] false) ∧ Tryz.prog.underlying 101 = some (TypeDesc.map 9 3))) ∧ (szOf cx 1 = some 1 ∧ szOf cx 3 = some 1 ∧ szOf cx 4 = some 1 ∧ szOf cx 9 = some 1 ∧ szOf cx 22 = some 1 ∧ szOf cx 23 = some 1 ∧ szOf cx 25 = some 6 ∧ szOf cx 28 = some 1 ∧ szOf cx 37 = some 4 ∧ szOf cx 41 = some 49 ∧ szOf cx 44 = some 1 ∧ szOf cx 50 = some 1 ∧ szOf cx 57 = some 1 ∧ szOf cx 58 = some 1 ∧ szOf cx 61 = some 1 ∧ szOf cx 63 = some 2 ∧ szOf cx 65 = some 5 ∧ szOf cx 66 = some 1 ∧ szOf cx 68 = some 4 ∧ szOf cx 101 = some 1 ∧ szOf cx 209 = some 2) := And.intro tyE0 tyS
theorem cvE : (0 : Nat) = 0 := rfl

theorem bdE : (∀ a b, buildV cx 63 [(0, .int .i64 a), (1, .int .i64 b)] = some (.agg [.int .i64 a, .int .i64 b])) ∧ buildV cx 25 [] = some (.agg [.int .i64 0, .int .i64 0, .int .i64 0, .int .u64 0, .int .u64 0, .sl .full []]) ∧
    (∀ k, buildV cx 25 [(0, .int .i64 k)] = some (.agg [.int .i64 k, .int .i64 0, .int .i64 0, .int .u64 0, .int .u64 0, .sl .full []])) ∧ (∀ k tip xs, buildV cx 25 [(0, .int .i64 k), (5, .sl tip xs)] = some (.agg [.int .i64 k, .int .i64 0, .int .i64 0, .int .u64 0, .int .u64 0, .sl tip xs])) ∧
    (∀ k f o v m, buildV cx 25 [(0, .int .i64 k), (1, .int .i64 f), (2, .int .i64 o), (3, .int .u64 v), (4, .int .u64 m)] = some (.agg [.int .i64 k, .int .i64 f, .int .i64 o, .int .u64 v, .int .u64 m, .sl .full []])) ∧
    (∀ t1 xs t2 ys, buildV cx 65 [(0, .sl t1 xs), (1, .sl t2 ys)] = some (.agg [.sl t1 xs, .sl t2 ys, .int .i64 0, .int .i64 0, .int .i64 0])) :=
  ⟨fun _ _ => by rfl, by rfl, fun _ => by rfl, fun _ _ _ => by rfl, fun _ _ _ _ _ => by rfl, fun _ _ _ _ => by rfl⟩

/-! Memory. -/
theorem hdrop_ge {n i : Nat} {o : Ob} {H : List (Nat × Ob)} (h : n ≤ i) : hdrop n ((i, o) :: H) = hdrop n H := by simp [hdrop, h]
theorem hdrop_lt {n i : Nat} {o : Ob} {H : List (Nat × Ob)} (h : i < n) : hdrop n ((i, o) :: H) = (i, o) :: H := by
  simp only [hdrop, if_neg (show ¬ n ≤ i by omega)]
theorem hdrop_hset {n b : Nat} {x : Ob} : ∀ {H : List (Nat × Ob)}, b < n → hdrop n (hset H b x) = hset (hdrop n H) b x
  | [], _ => rfl
  | (i, o) :: r, h => by
    by_cases hi : i = b
    · subst hi
      simp only [hset, beq_self_eq_true, if_true]
      rw [hdrop_lt h, hdrop_lt h]
      simp only [hset, beq_self_eq_true, if_true]
    · have hib : (i == b) = false := by simpa using hi
      simp only [hset, hib, Bool.false_eq_true, if_false]
      rcases Nat.lt_or_ge i n with hn | hn
      · rw [hdrop_lt hn, hdrop_lt hn]
        simp only [hset, hib, Bool.false_eq_true, if_false]
      · rw [hdrop_ge hn, hdrop_ge hn, hdrop_hset h]
theorem hset_hset {b : Nat} {x y : Ob} : ∀ {H : List (Nat × Ob)}, hset (hset H b x) b y = hset H b y
  | [] => rfl
  | (i, o) :: r => by
    by_cases hi : i = b
    · subst hi
      simp only [hset, beq_self_eq_true, if_true]
    · have hib : (i == b) = false := by simpa using hi
      simp only [hset, hib, Bool.false_eq_true, if_false, hset_hset]
def Wn (H : List (Nat × Ob)) (n : Nat) : Prop := hdrop n H = H
theorem Wn.le {H : List (Nat × Ob)} {n m : Nat} (h : Wn H n) (hm : n ≤ m) : Wn H m := by
  unfold Wn at *
  cases H with
  | nil => rfl
  | cons p r =>
    obtain ⟨i, o⟩ := p
    rcases Nat.lt_or_ge i n with hn | hn
    · exact hdrop_lt (by omega)
    · rw [hdrop_ge hn] at h
      exfalso
      have : ∀ (n : Nat) (r : List (Nat × Ob)), (hdrop n r).length ≤ r.length := by
        intro n r
        induction r with
        | nil => exact Nat.le_refl _
        | cons p r ih =>
          obtain ⟨i, o⟩ := p
          rcases Nat.lt_or_ge i n with hn | hn
          · rw [hdrop_lt hn]; exact Nat.le_refl _
          · rw [hdrop_ge hn]; simp; omega
      have := this n r
      rw [h] at this
      simp only [List.length_cons] at this
      omega
theorem Wn.cons {H : List (Nat × Ob)} {n i : Nat} {o : Ob} (hi : i < n) : Wn ((i, o) :: H) n := hdrop_lt hi
theorem Wn.set {H : List (Nat × Ob)} {n b : Nat} {o : Ob} (h : Wn H n) (hi : b < n) : Wn (hset H b o) n := by
  unfold Wn at *; rw [hdrop_hset hi, h]
theorem hpK : (∀ (H : List (Nat × Ob)) (b c : Nat) (x : Ob), c ≠ b → hget (hset H b x) c = hget H c) ∧ (∀ (H : List (Nat × Ob)) (b : Nat) (x : Ob), hget (hset H b x) b = (hget H b).map (fun _ => x)) ∧ (∀ (H : List (Nat × Ob)) (i b : Nat) (o : Ob), i ≠ b → hget ((i, o) :: H) b = hget H b) ∧ (∀ (H : List (Nat × Ob)) (b : Nat) (o : Ob), hget ((b, o) :: H) b = some o) ∧
    (∀ (H : List (Nat × Ob)) (i b : Nat) (o x : Ob), i ≠ b → hset ((i, o) :: H) b x = (i, o) :: hset H b x) ∧ (∀ (H : List (Nat × Ob)) (b : Nat) (o x : Ob), hset ((b, o) :: H) b x = (b, x) :: H) ∧ (∀ (H : List (Nat × Ob)) (b : Nat) (x y : Ob), hset (hset H b x) b y = hset H b y) ∧ (∀ (f : Ob → Ob) (o : Ob), Option.map f (some o) = some (f o)) := by
  refine ⟨fun H b c x h => by rw [hget_hset, if_neg h], fun H b x => by rw [hget_hset, if_pos rfl], fun H i b o h => ?_, fun H b o => ?_, fun H i b o x h => ?_, fun H b o x => ?_, fun H b x y => hset_hset, fun _ _ => rfl⟩
  · simp [hget, h]
  · simp [hget]
  · simp [hset, h]
  · simp [hset]
theorem zvE : zeroV cx 25 = some (.agg [.int .i64 0, .int .i64 0, .int .i64 0, .int .u64 0, .int .u64 0, .sl .full []]) ∧ zeroV cx 68 = some (.agg [.int .i64 0, .str [], .int .u64 0, .int .i64 0]) ∧ zeroV cx 3 = some (.int .i64 0) ∧ (∀ cs, cellsOf (.agg cs) = some cs) ∧ (∀ k n, cellsOf (.int k n) = some [.int k n]) ∧ (∀ a b, cellsOf (.ptr a b) = some [.ptr a b]) := ⟨by rfl, by rfl, by rfl, fun _ => rfl, fun _ _ => rfl, fun _ _ => rfl⟩
def rdC (l : List L.Tok) (d : Int) : List V := [.sl .none (l.map L.Tok.v), .sl .full [], .int .i64 d, .int .i64 0, .int .i64 0]
theorem rdC_cons (k : Int) (tx : List UInt8) (nu a : Int) (l : List L.Tok) (d : Int) : rdC (⟨k, tx, nu, a⟩ :: l) d = [.sl .none (.agg [.int .i64 k, .str tx, .int .u64 nu, .int .i64 a] :: l.map L.Tok.v), .sl .full [], .int .i64 d, .int .i64 0, .int .i64 0] := rfl

theorem okS {H : List (Nat × Ob)} {n b : Nat} {l : List L.Tok} {d : Int} (hb : hget H b = some (.cells (rdC l d))) : FnS cx 28 [.ptr b 0] ⟨H, n⟩ (.bool true) ⟨H, n⟩ := by
  unfold rdC at hb
  refine goS Tryz.func28 rfl rfl rfl rfl ?_
  intro t ht
  have a0 : tget t 0 = .ptr b 0 := ht 0 _ rfl
  clear ht
  have ex := And.intro @a0 (And.intro @hpB (And.intro @hpK (And.intro @zvE @hb)))
  repeat' (first
   | (with_reducible refine isO ?_); first | refine mvA (h := ?_) | refine asA (h := ?_) | refine quA (h := ?_)
   | (with_reducible refine isC ?_); first | refine ctA (h := ?_) | refine cfA (h := ?_) | refine cdA (h1 := fun _ => ?_) (h0 := fun _ => ?_) | refine cbA (h1 := fun _ => ?_) (h0 := fun _ => ?_)
   | with_reducible first | refine Ev.seq ?_ | refine Ev.ops ?_ | refine NxE ?_ | refine BxN ?_ | refine BxX ?_ | refine NxX ?_ | refine NxR ?_ | refine BxR ?_ | refine Ev.block ?_ | refine Ev.skip ?_ | refine Ev.exit ?_ | refine Ev.ret ?_ | refine EvOps.nil ?_ | refine EvPlan.nil ?_
   | (with_reducible refine BxO ?_ ?_; · decide)
   )
  refine lsA (rl := [.tmp 2]) rfl (hv := by
      simp only [leaveV, packV, strip, stripAgg, stripCell, List.map_cons, List.map_nil, show cx.grow 28 = false from rfl, show cx.keep 28 = true from rfl, show cx.frz 28 = false from rfl, if_false, if_true, Bool.false_eq_true]
      try simp (disch := omega) only [hdrop_ge, hdrop_hset, show hdrop n H = H from hw, ite_self, List.take_length]
      first | done | rfl)
theorem nextS {H : List (Nat × Ob)} {n b : Nat} {k : Int} {tx : List UInt8} {nu a : Int} {l : List L.Tok} {d : Int} (hb : hget H b = some (.cells (rdC (⟨k, tx, nu, a⟩ :: l) d))) (hbn : b < n) (hw : Wn H n) (hk : k ≠ 7) : FnS cx 103 [.ptr b 0] ⟨H, n⟩ (L.Tok.v ⟨k, tx, nu, a⟩) ⟨hset H b (.cells (rdC l d)), n + 2⟩ := by
  rw [rdC_cons] at hb
  unfold Wn at hw
  refine goS Tryz.func103 rfl rfl rfl rfl ?_
  intro t ht
  have a0 : tget t 0 = .ptr b 0 := ht 0 _ rfl
  clear ht
  have ex := And.intro @a0 (And.intro @hpB (And.intro @hpK (And.intro @zvE @hb)))
  repeat' (first
   | (with_reducible refine isO ?_); first | refine mvA (h := ?_) | refine asA (h := ?_) | refine quA (h := ?_) | refine wnA (h := ?_)
   | (with_reducible refine isC ?_); first | refine ctA (h := ?_) | refine cfA (h := ?_) | refine cdA (h1 := fun _ => ?_) (h0 := fun _ => ?_) | refine cbA (h1 := fun _ => ?_) (h0 := fun _ => ?_)
   | with_reducible first | refine Ev.seq ?_ | refine Ev.ops ?_ | refine NxE ?_ | refine BxN ?_ | refine BxX ?_ | refine NxX ?_ | refine NxR ?_ | refine BxR ?_ | refine Ev.block ?_ | refine Ev.skip ?_ | refine Ev.exit ?_ | refine Ev.ret ?_ | refine EvOps.nil ?_ | refine EvPlan.nil ?_
   | (with_reducible refine BxO ?_ ?_; · decide)
   )

  refine lsA (rl := [.cell 2 68]) rfl (hv := by
      simp only [leaveV, packV, strip, stripAgg, stripCell, List.map_cons, List.map_nil, show cx.grow 103 = false from rfl, show cx.keep 103 = false from rfl, show cx.frz 103 = false from rfl, if_false, if_true, Bool.false_eq_true]
      try simp (disch := omega) only [hdrop_ge, hdrop_hset, hw, ite_self, List.take_length]
      first | done | rfl)
end Go.Proofs.YtklcmgodhpediaaGreatDoor.K
/- An operator's token, or none. -/
namespace Go.Proofs.YtklcmgodhpediaaGreatDoor.K
open Go Go.Vm Go.Proofs Go.Proofs.YtklcmgodhpediaaGreatDoor

theorem opYes {H : List (Nat × Ob)} {n b : Nat} {tx : List UInt8} {nu a : Int} {l : List L.Tok} {d : Int} (hb : hget H b = some (.cells (rdC (⟨5, tx, nu, a⟩ :: l) d))) (hbn : b < n) (hw : Wn H n) : FnS cx 83 [.ptr b 0, .str tx] ⟨H, n⟩ (.bool true) ⟨hset H b (.cells (rdC l d)), n + 3⟩ := by
  have hok : ∀ cs, FnS cx 28 [.ptr b 0] ⟨(n, .cells cs) :: H, n + 1⟩ (.bool true) ⟨(n, .cells cs) :: H, n + 1⟩ := fun cs => okS (by rw [hpK.2.2.1 _ _ _ _ (by omega)]; exact hb)
  have hnx : ∀ cs, FnS cx 103 [.ptr b 0] ⟨(n, .cells cs) :: H, n + 1⟩ (L.Tok.v ⟨5, tx, nu, a⟩) ⟨(n, .cells cs) :: hset H b (.cells (rdC l d)), n + 3⟩ := fun cs => by
    have := nextS (H := (n, .cells cs) :: H) (n := n + 1) (b := b) (d := d) (l := l) (tx := tx) (k := 5) (nu := nu) (a := a) (by rw [hpK.2.2.1 _ _ _ _ (by omega)]; exact hb) (by omega) (Wn.cons (by omega)) (by decide)
    rw [hpK.2.2.2.2.1 _ _ _ _ _ (by omega)] at this
    exact this
  rw [rdC_cons] at hb
  unfold Wn at hw
  have e1 : decide (tx = tx) = true := by simp
  refine goS Tryz.func83 rfl rfl rfl rfl ?_
  intro t ht
  have a0 : tget t 0 = .ptr b 0 := ht 0 _ rfl
  have a1 : tget t 1 = .str tx := ht 1 _ rfl
  clear ht
  have ex := And.intro @a0 (And.intro @a1 (And.intro @hpB (And.intro @hpK (And.intro @zvE (And.intro @hb @e1)))))
  repeat' (first
   | (with_reducible refine isO ?_); first | refine mvA (h := ?_) | refine asA (h := ?_) | refine quA (h := ?_) | refine wnA (h := ?_) | refine caA (hc := hok _) (h := ?_) | refine caA (hc := hnx _) (h := ?_)
   | (with_reducible refine isG ?_); first | refine stA (h := ?_) | refine srA (h := ?_) | refine swA (h := ?_) | refine s1A (h := ?_) | refine s0A (h := ?_) | refine sgA (h1 := fun _ => ?_) (h0 := fun _ => ?_) | refine sbA (h1 := fun _ => ?_) (h0 := fun _ => ?_)
   | (with_reducible refine isC ?_); first | refine ctA (h := ?_) | refine cfA (h := ?_) | refine cdA (h1 := fun _ => ?_) (h0 := fun _ => ?_) | refine cbA (h1 := fun _ => ?_) (h0 := fun _ => ?_)
   | with_reducible first | refine Ev.seq ?_ | refine Ev.ops ?_ | refine NxE ?_ | refine BxN ?_ | refine BxX ?_ | refine NxX ?_ | refine NxR ?_ | refine BxR ?_ | refine Ev.block ?_ | refine Ev.skip ?_ | refine Ev.exit ?_ | refine Ev.ret ?_ | refine EvOps.nil ?_ | refine EvPlan.nil ?_
   | (with_reducible refine BxO ?_ ?_; · decide)
   )
  refine lsA (rl := [.tmp 4]) rfl (hv := by
      simp only [leaveV, packV, strip, stripAgg, stripCell, List.map_cons, List.map_nil, show cx.grow 83 = false from rfl, show cx.keep 83 = false from rfl, show cx.frz 83 = false from rfl, if_false, if_true, Bool.false_eq_true]
      try simp (disch := omega) only [hdrop_ge, hdrop_hset, hw, ite_self, List.take_length]
      first | done | rfl)
theorem opNo5 {H : List (Nat × Ob)} {n b : Nat} {k : Int} {tx : List UInt8} {nu a : Int} {l : List L.Tok} {d : Int} {tx' : List UInt8} (hb : hget H b = some (.cells (rdC (⟨k, tx, nu, a⟩ :: l) d))) (hbn : b < n) (hw : Wn H n) (hk : k ≠ 5) : FnS cx 83 [.ptr b 0, .str tx'] ⟨H, n⟩ (.bool false) ⟨H, n + 1⟩ := by
  have hok : ∀ cs, FnS cx 28 [.ptr b 0] ⟨(n, .cells cs) :: H, n + 1⟩ (.bool true) ⟨(n, .cells cs) :: H, n + 1⟩ := fun cs => okS (by rw [hpK.2.2.1 _ _ _ _ (by omega)]; exact hb)
  rw [rdC_cons] at hb
  unfold Wn at hw
  have e1 : decide (¬ k = 5) = true := by simp [hk]
  refine goS Tryz.func83 rfl rfl rfl rfl ?_
  intro t ht
  have a0 : tget t 0 = .ptr b 0 := ht 0 _ rfl
  have a1 : tget t 1 = .str tx' := ht 1 _ rfl
  clear ht
  have ex := And.intro @a0 (And.intro @a1 (And.intro @hpB (And.intro @hpK (And.intro @zvE (And.intro @hb @e1)))))
  repeat' (first
   | (with_reducible refine isO ?_); first | refine mvA (h := ?_) | refine asA (h := ?_) | refine quA (h := ?_) | refine wnA (h := ?_) | refine caA (hc := hok _) (h := ?_)
   | (with_reducible refine isG ?_); first | refine stA (h := ?_) | refine srA (h := ?_) | refine swA (h := ?_) | refine s1A (h := ?_) | refine s0A (h := ?_) | refine sgA (h1 := fun _ => ?_) (h0 := fun _ => ?_) | refine sbA (h1 := fun _ => ?_) (h0 := fun _ => ?_)
   | (with_reducible refine isC ?_); first | refine ctA (h := ?_) | refine cfA (h := ?_) | refine cdA (h1 := fun _ => ?_) (h0 := fun _ => ?_) | refine cbA (h1 := fun _ => ?_) (h0 := fun _ => ?_)
   | with_reducible first | refine Ev.seq ?_ | refine Ev.ops ?_ | refine NxE ?_ | refine BxN ?_ | refine BxX ?_ | refine NxX ?_ | refine NxR ?_ | refine BxR ?_ | refine Ev.block ?_ | refine Ev.skip ?_ | refine Ev.exit ?_ | refine Ev.ret ?_ | refine EvOps.nil ?_ | refine EvPlan.nil ?_
   | (with_reducible refine BxO ?_ ?_; · decide)
   )
  refine lsA (rl := [.tmp 4]) rfl (hv := by
      simp only [leaveV, packV, strip, stripAgg, stripCell, List.map_cons, List.map_nil, show cx.grow 83 = false from rfl, show cx.keep 83 = false from rfl, show cx.frz 83 = false from rfl, if_false, if_true, Bool.false_eq_true]
      try simp (disch := omega) only [hdrop_ge, hdrop_hset, hw, ite_self, List.take_length]
      first | done | rfl)
theorem opNoT {H : List (Nat × Ob)} {n b : Nat} {k : Int} {tx : List UInt8} {nu a : Int} {l : List L.Tok} {d : Int} {tx' : List UInt8} (hb : hget H b = some (.cells (rdC (⟨5, tx, nu, a⟩ :: l) d))) (hbn : b < n) (hw : Wn H n) (hk : tx ≠ tx') : FnS cx 83 [.ptr b 0, .str tx'] ⟨H, n⟩ (.bool false) ⟨H, n + 1⟩ := by
  have hok : ∀ cs, FnS cx 28 [.ptr b 0] ⟨(n, .cells cs) :: H, n + 1⟩ (.bool true) ⟨(n, .cells cs) :: H, n + 1⟩ := fun cs => okS (by rw [hpK.2.2.1 _ _ _ _ (by omega)]; exact hb)
  rw [rdC_cons] at hb
  unfold Wn at hw
  have e1 : decide (¬ tx = tx') = true := by simp [hk]
  have e2 : decide (tx = tx') = false := by simp [hk]
  refine goS Tryz.func83 rfl rfl rfl rfl ?_
  intro t ht
  have a0 : tget t 0 = .ptr b 0 := ht 0 _ rfl
  have a1 : tget t 1 = .str tx' := ht 1 _ rfl
  clear ht
  have ex := And.intro @a0 (And.intro @a1 (And.intro @hpB (And.intro @hpK (And.intro @zvE (And.intro @hb (And.intro @e1 @e2))))))
  repeat' (first
   | (with_reducible refine isO ?_); first | refine mvA (h := ?_) | refine asA (h := ?_) | refine quA (h := ?_) | refine wnA (h := ?_) | refine caA (hc := hok _) (h := ?_)
   | (with_reducible refine isG ?_); first | refine stA (h := ?_) | refine srA (h := ?_) | refine swA (h := ?_) | refine s1A (h := ?_) | refine s0A (h := ?_) | refine sgA (h1 := fun _ => ?_) (h0 := fun _ => ?_) | refine sbA (h1 := fun _ => ?_) (h0 := fun _ => ?_)
   | (with_reducible refine isC ?_); first | refine ctA (h := ?_) | refine cfA (h := ?_) | refine cdA (h1 := fun _ => ?_) (h0 := fun _ => ?_) | refine cbA (h1 := fun _ => ?_) (h0 := fun _ => ?_)
   | with_reducible first | refine Ev.seq ?_ | refine Ev.ops ?_ | refine NxE ?_ | refine BxN ?_ | refine BxX ?_ | refine NxX ?_ | refine NxR ?_ | refine BxR ?_ | refine Ev.block ?_ | refine Ev.skip ?_ | refine Ev.exit ?_ | refine Ev.ret ?_ | refine EvOps.nil ?_ | refine EvPlan.nil ?_
   | (with_reducible refine BxO ?_ ?_; · decide)
   )
  refine lsA (rl := [.tmp 4]) rfl (hv := by
      simp only [leaveV, packV, strip, stripAgg, stripCell, List.map_cons, List.map_nil, show cx.grow 83 = false from rfl, show cx.keep 83 = false from rfl, show cx.frz 83 = false from rfl, if_false, if_true, Bool.false_eq_true]
      try simp (disch := omega) only [hdrop_ge, hdrop_hset, hw, ite_self, List.take_length]
      first | done | rfl)
theorem opNo {H : List (Nat × Ob)} {n b : Nat} {k : Int} {tx : List UInt8} {nu a : Int} {l : List L.Tok} {d : Int} {tx' : List UInt8} (hb : hget H b = some (.cells (rdC (⟨k, tx, nu, a⟩ :: l) d))) (hbn : b < n) (hw : Wn H n) (hk : ¬ (k = 5 ∧ tx = tx')) : FnS cx 83 [.ptr b 0, .str tx'] ⟨H, n⟩ (.bool false) ⟨H, n + 1⟩ := by
  by_cases h : k = 5
  · subst h; exact opNoT (k := 5) hb hbn hw fun e => hk ⟨rfl, e⟩
  · exact opNo5 hb hbn hw h

/-! The same, found by what is known at the place of use. -/
theorem okA {H : List (Nat × Ob)} {n : Nat} (b : Nat) (l : List L.Tok) (d : Int) (hb' : hget H b = some (.cells (rdC l d)) := by (simp (disch := omega) only [hpK, hb]); first | done | fail) : FnS cx 28 [.ptr b 0] ⟨H, n⟩ (.bool true) ⟨H, n⟩ := okS hb'
theorem nextA {H : List (Nat × Ob)} {n : Nat} (b : Nat) (k : Int) (tx : List UInt8) (nu a : Int) (l : List L.Tok) (d : Int) (hb' : hget H b = some (.cells (rdC (⟨k, tx, nu, a⟩ :: l) d)) := by (simp (disch := omega) only [hpK, hb]); first | done | fail) (hbn : b < n := by omega) (hw' : Wn H n := by first | exact hw | exact Wn.cons (by omega) | exact hw.le (by omega) | exact (hw.le (by omega)).set (by omega)) (hk : k ≠ 7 := by decide) : FnS cx 103 [.ptr b 0] ⟨H, n⟩ (L.Tok.v ⟨k, tx, nu, a⟩) ⟨hset H b (.cells (rdC l d)), n + 2⟩ := nextS hb' hbn hw' hk
theorem yesA {H : List (Nat × Ob)} {n : Nat} (b : Nat) (tx : List UInt8) (nu a : Int) (l : List L.Tok) (d : Int) (hb' : hget H b = some (.cells (rdC (⟨5, tx, nu, a⟩ :: l) d)) := by (simp (disch := omega) only [hpK, hb]); first | done | fail) (hbn : b < n := by omega) (hw' : Wn H n := by first | exact hw | exact Wn.cons (by omega) | exact hw.le (by omega) | exact (hw.le (by omega)).set (by omega)) : FnS cx 83 [.ptr b 0, .str tx] ⟨H, n⟩ (.bool true) ⟨hset H b (.cells (rdC l d)), n + 3⟩ := opYes hb' hbn hw'
theorem noA {H : List (Nat × Ob)} {n : Nat} (b : Nat) (k : Int) (tx : List UInt8) (nu a : Int) (l : List L.Tok) (d : Int) (tx' : List UInt8) (hk : ¬ (k = 5 ∧ tx = tx')) (hb' : hget H b = some (.cells (rdC (⟨k, tx, nu, a⟩ :: l) d)) := by (simp (disch := omega) only [hpK, hb]); first | done | fail) (hbn : b < n := by omega) (hw' : Wn H n := by first | exact hw | exact Wn.cons (by omega) | exact hw.le (by omega) | exact (hw.le (by omega)).set (by omega)) : FnS cx 83 [.ptr b 0, .str tx'] ⟨H, n⟩ (.bool false) ⟨H, n + 1⟩ := opNo hb' hbn hw' hk
end Go.Proofs.YtklcmgodhpediaaGreatDoor.K
/- A constant, and its mask. -/
namespace Go.Proofs.YtklcmgodhpediaaGreatDoor.K
open Go Go.Vm Go.Proofs Go.Proofs.YtklcmgodhpediaaGreatDoor

theorem allK (f : Int) (h1 : 1 ≤ f) (h2 : f ≤ 28) (st : St) : FnS cx 42 [.int .i64 f] st (.int .u64 (allN f)) st := rt (allS f h1 h2 st)
theorem leT {a b : Int} (h : a ≤ b) : decide (a ≤ b) = true := by simp [h]
theorem gtF {a b : Int} (h : a ≤ b) : decide (a > b) = false := by simp; omega

theorem valueS {H : List (Nat × Ob)} {n b : Nat} {tx : List UInt8} {nu a f : Int} (h1 : 1 ≤ f) (h2 : f ≤ 28) (hw : Wn H n) (hn : nu ≤ allN f) : FnS cx 181 [.ptr b 0, .int .i64 f, L.Tok.v ⟨2, tx, nu, a⟩] ⟨H, n⟩ (.tup [.int .u64 nu, .bool true]) ⟨H, n + 1⟩ := by
  have e1 := leT hn
  unfold Wn at hw
  refine goS Tryz.func181 rfl rfl rfl rfl ?_
  intro t ht
  have a0 : tget t 0 = .ptr b 0 := ht 0 _ rfl
  have a1 : tget t 1 = .int .i64 f := ht 1 _ rfl
  have a2 : tget t 2 = L.Tok.v ⟨2, tx, nu, a⟩ := ht 2 _ rfl
  clear ht
  rw [show L.Tok.v ⟨2, tx, nu, a⟩ = .agg [.int .i64 2, .str tx, .int .u64 nu, .int .i64 a] from rfl] at a2
  have ex := And.intro @a0 (And.intro @a1 (And.intro @a2 (And.intro @hpB (And.intro @hpK (And.intro @zvE @e1)))))
  repeat' (first
   | (with_reducible refine isO ?_); first | refine mvA (h := ?_) | refine asA (h := ?_) | refine quA (h := ?_) | refine wnA (h := ?_)
   | (with_reducible refine isG ?_); first | refine stA (h := ?_) | refine srA (h := ?_) | refine swA (h := ?_) | refine s1A (h := ?_) | refine s0A (h := ?_) | refine sgA (h1 := fun _ => ?_) (h0 := fun _ => ?_) | refine sbA (h1 := fun _ => ?_) (h0 := fun _ => ?_)
   | (with_reducible refine isP ?_); first | refine dqA (h := ?_) | refine dcA (i := 5) (l := [3, 1]) (hc := (allK f h1 h2 _)) (h := ?_)
   | (with_reducible refine isC ?_); first | refine ctA (h := ?_) | refine cfA (h := ?_) | refine cdA (h1 := fun _ => ?_) (h0 := fun _ => ?_) | refine cbA (h1 := fun _ => ?_) (h0 := fun _ => ?_)
   | (with_reducible refine isR ?_); first
     | refine Ev.drawn (by decide +kernel) (l := [0, 1, 2, 3, 4, 5, 6, 7, 8]) (by decide +kernel) ?_
     | refine Ev.drawn (by decide +kernel) (l := [0, 1, 2, 3, 4, 5, 6]) (by decide +kernel) ?_
     | refine Ev.drawn (by decide +kernel) (l := [0, 1, 2, 3, 4, 5, 6, 7, 8]) (by decide +kernel) ?_
   | with_reducible first | refine Ev.seq ?_ | refine Ev.ops ?_ | refine NxE ?_ | refine BxN ?_ | refine BxX ?_ | refine NxX ?_ | refine NxR ?_ | refine BxR ?_ | refine Ev.block ?_ | refine Ev.skip ?_ | refine Ev.exit ?_ | refine Ev.ret ?_ | refine EvOps.nil ?_ | refine EvPlan.nil ?_
   | (with_reducible refine BxO ?_ ?_; · decide)
   )
  refine lsA (rl := [.tmp 6, .tmp 7]) rfl (hv := by
      simp only [leaveV, packV, strip, stripAgg, stripCell, List.map_cons, List.map_nil, show cx.grow 181 = false from rfl, show cx.keep 181 = false from rfl, show cx.frz 181 = false from rfl, if_false, if_true, Bool.false_eq_true]
      try simp (disch := omega) only [hdrop_ge, hdrop_hset, hw, ite_self, List.take_length]
      first | done | rfl)
theorem maskS {H : List (Nat × Ob)} {n : Nat} {tx ty : List UInt8} {nu a m a' : Int} : FnS cx 182 [L.Tok.v ⟨2, tx, nu, a⟩, L.Tok.v ⟨2, ty, m, a'⟩] ⟨H, n⟩ (.tup [.int .u64 m, .bool true]) ⟨H, n⟩ := by
  refine goP Tryz.func182 rfl rfl rfl rfl ?_ ?_
  · rfl
  intro t ht
  have a0 : tget t 0 = L.Tok.v ⟨2, tx, nu, a⟩ := ht 0 _ rfl
  have a1 : tget t 1 = L.Tok.v ⟨2, ty, m, a'⟩ := ht 1 _ rfl
  clear ht
  rw [show L.Tok.v ⟨2, tx, nu, a⟩ = .agg [.int .i64 2, .str tx, .int .u64 nu, .int .i64 a] from rfl] at a0
  rw [show L.Tok.v ⟨2, ty, m, a'⟩ = .agg [.int .i64 2, .str ty, .int .u64 m, .int .i64 a'] from rfl] at a1
  have ex := And.intro @a0 (And.intro @a1 (And.intro @hpB (And.intro @hpK @zvE)))
  repeat' (first
   | (with_reducible refine isO ?_); first | refine mvA (h := ?_) | refine asA (h := ?_) | refine quA (h := ?_)
   | (with_reducible refine isG ?_); first | refine stA (h := ?_) | refine srA (h := ?_) | refine swA (h := ?_) | refine s1A (h := ?_) | refine s0A (h := ?_) | refine sgA (h1 := fun _ => ?_) (h0 := fun _ => ?_) | refine sbA (h1 := fun _ => ?_) (h0 := fun _ => ?_)
   | (with_reducible refine isC ?_); first | refine ctA (h := ?_) | refine cfA (h := ?_) | refine cdA (h1 := fun _ => ?_) (h0 := fun _ => ?_) | refine cbA (h1 := fun _ => ?_) (h0 := fun _ => ?_)
   | with_reducible first | refine Ev.seq ?_ | refine Ev.ops ?_ | refine NxE ?_ | refine BxN ?_ | refine BxX ?_ | refine NxX ?_ | refine NxR ?_ | refine BxR ?_ | refine Ev.block ?_ | refine Ev.skip ?_ | refine Ev.exit ?_ | refine Ev.ret ?_ | refine EvOps.nil ?_ | refine EvPlan.nil ?_
   | (with_reducible refine BxO ?_ ?_; · decide)
   )
  refine lfA (rl := [.tmp 4, .tmp 5]) rfl (hv := by
      simp only [packV, strip, stripAgg, stripCell, List.map_cons, List.map_nil]
      first | done | rfl) (hp := rfl)
theorem tkE (k : Int) (tx : List UInt8) (nu a : Int) : L.Tok.v ⟨k, tx, nu, a⟩ = .agg [.int .i64 k, .str tx, .int .u64 nu, .int .i64 a] := rfl

def isE (f o v m : Int) : E := .mk 3 f o v m false []
theorem constS {H : List (Nat × Ob)} {n b : Nat} {tx : List UInt8} {nu a f o : Int} {l : List L.Tok} {d : Int} (h1 : 1 ≤ f) (h2 : f ≤ 28) (ho : 2 < o) (hb : hget H b = some (.cells (rdC (⟨2, tx, nu, a⟩ :: l) d))) (hbn : b < n) (hw : Wn H n) (hn : nu ≤ allN f) :
    FnS cx 159 [.ptr b 0, .int .i64 f, .int .i64 o] ⟨H, n⟩ (isE f o nu (allN f)).c ⟨hset H b (.cells (rdC l d)), n + 6⟩ := by
  have e1 : decide (2 < o) = true := by simp [ho]
  refine goS Tryz.func159 rfl rfl rfl rfl ?_
  intro t ht
  have a0 : tget t 0 = .ptr b 0 := ht 0 _ rfl
  have a1 : tget t 1 = .int .i64 f := ht 1 _ rfl
  have a2 : tget t 2 = .int .i64 o := ht 2 _ rfl
  clear ht
  have ex := And.intro @a0 (And.intro @a1 (And.intro @a2 (And.intro @hpB (And.intro @hpK (And.intro @zvE (And.intro @e1 @tkE))))))
  repeat' (first
   | (with_reducible refine isO ?_); first | refine mvA (h := ?_) | refine asA (h := ?_) | refine quA (h := ?_) | refine wnA (h := ?_) | refine caA (hc := (okA b (⟨2, tx, nu, a⟩ :: l) d)) (h := ?_) | refine caA (hc := (nextA b 2 tx nu a (l) d)) (h := ?_) | refine caA (hc := (valueS (b := b) h1 h2 (Wn.cons (by omega)) hn)) (h := ?_) | refine caA (hc := (allK f h1 h2 _)) (h := ?_)
   | (with_reducible refine isG ?_); first | refine stA (h := ?_) | refine srA (h := ?_) | refine swA (h := ?_) | refine s1A (h := ?_) | refine s0A (h := ?_) | refine sgA (h1 := fun _ => ?_) (h0 := fun _ => ?_) | refine sbA (h1 := fun _ => ?_) (h0 := fun _ => ?_)
   | (with_reducible refine isP ?_); first | refine dqA (h := ?_) | refine dqAG (h := ?_) | refine dcAG (i := 11) (l := [9]) (hc := (allK f h1 h2 _)) (h := ?_) | refine dsA (h := ?_) | refine dtA (h := ?_) | refine dgA (h1 := fun _ => ?_) (h0 := fun _ => ?_)
   | (with_reducible refine isC ?_); first | refine ctA (h := ?_) | refine cfA (h := ?_) | refine cdA (h1 := fun _ => ?_) (h0 := fun _ => ?_) | refine cbA (h1 := fun _ => ?_) (h0 := fun _ => ?_)
   | (with_reducible refine isR ?_); first
     | refine Ev.drawn (by decide +kernel) (l := [0, 1, 2, 3, 4, 5, 6, 7, 8, 9, 10, 11, 12, 13]) (by decide +kernel) ?_
   | with_reducible first | refine Ev.seq ?_ | refine Ev.ops ?_ | refine NxE ?_ | refine BxN ?_ | refine BxX ?_ | refine NxX ?_ | refine NxR ?_ | refine BxR ?_ | refine Ev.block ?_ | refine Ev.skip ?_ | refine Ev.exit ?_ | refine Ev.ret ?_ | refine EvOps.nil ?_ | refine EvPlan.nil ?_
   | (with_reducible refine BxO ?_ ?_; · decide)
   )
  refine lsA (rl := [.cell 6 25]) rfl (hv := by
      simp only [leaveV, packV, strip, stripAgg, stripCell, List.map_cons, List.map_nil, show cx.grow 159 = false from rfl, show cx.keep 159 = false from rfl, show cx.frz 159 = false from rfl, if_false, if_true, Bool.false_eq_true]
      try simp (disch := omega) only [hdrop_ge, hdrop_hset, show hdrop n H = H from hw, ite_self, List.take_length]
      first | done | rfl)
theorem constN {H : List (Nat × Ob)} {n b : Nat} {tx : List UInt8} {nu a f o : Int} {k : Int} {ty : List UInt8} {nv av : Int} {l : List L.Tok} {d : Int} (h1 : 1 ≤ f) (h2 : f ≤ 28) (ho : o ≤ 2) (hb : hget H b = some (.cells (rdC (⟨2, tx, nu, a⟩ :: ⟨k, ty, nv, av⟩ :: l) d))) (hbn : b < n) (hw : Wn H n) (hn : nu ≤ allN f) (hk : ¬ (k = 5 ∧ ty = [47])) :
    FnS cx 159 [.ptr b 0, .int .i64 f, .int .i64 o] ⟨H, n⟩ (isE f o nu (allN f)).c ⟨hset H b (.cells (rdC (⟨k, ty, nv, av⟩ :: l) d)), n + 7⟩ := by
  have e1 : decide (2 < o) = false := by simp; omega
  refine goS Tryz.func159 rfl rfl rfl rfl ?_
  intro t ht
  have a0 : tget t 0 = .ptr b 0 := ht 0 _ rfl
  have a1 : tget t 1 = .int .i64 f := ht 1 _ rfl
  have a2 : tget t 2 = .int .i64 o := ht 2 _ rfl
  clear ht
  have ex := And.intro @a0 (And.intro @a1 (And.intro @a2 (And.intro @hpB (And.intro @hpK (And.intro @zvE (And.intro @e1 @tkE))))))
  repeat' (first
   | (with_reducible refine isO ?_); first | refine mvA (h := ?_) | refine asA (h := ?_) | refine quA (h := ?_) | refine wnA (h := ?_) | refine caA (hc := (okA b (⟨2, tx, nu, a⟩ :: ⟨k, ty, nv, av⟩ :: l) d)) (h := ?_) | refine caA (hc := (nextA b 2 tx nu a (⟨k, ty, nv, av⟩ :: l) d)) (h := ?_) | refine caA (hc := (valueS (b := b) h1 h2 (Wn.cons (by omega)) hn)) (h := ?_) | refine caA (hc := (allK f h1 h2 _)) (h := ?_) | refine caA (hc := (noA b k ty nv av (l) d [47] hk)) (h := ?_)
   | (with_reducible refine isG ?_); first | refine stA (h := ?_) | refine srA (h := ?_) | refine swA (h := ?_) | refine s1A (h := ?_) | refine s0A (h := ?_) | refine sgA (h1 := fun _ => ?_) (h0 := fun _ => ?_) | refine sbA (h1 := fun _ => ?_) (h0 := fun _ => ?_)
   | (with_reducible refine isP ?_); first | refine dqA (h := ?_) | refine dqAG (h := ?_) | refine dcAG (i := 11) (l := [9]) (hc := (allK f h1 h2 _)) (h := ?_) | refine dsA (h := ?_) | refine dtA (h := ?_) | refine dgA (h1 := fun _ => ?_) (h0 := fun _ => ?_)
   | (with_reducible refine isC ?_); first | refine ctA (h := ?_) | refine cfA (h := ?_) | refine cdA (h1 := fun _ => ?_) (h0 := fun _ => ?_) | refine cbA (h1 := fun _ => ?_) (h0 := fun _ => ?_)
   | (with_reducible refine isR ?_); first
     | refine Ev.drawn (by decide +kernel) (l := [0, 1, 2, 3, 4, 5, 6, 7, 8, 9, 10, 11, 12, 13]) (by decide +kernel) ?_
   | with_reducible first | refine Ev.seq ?_ | refine Ev.ops ?_ | refine NxE ?_ | refine BxN ?_ | refine BxX ?_ | refine NxX ?_ | refine NxR ?_ | refine BxR ?_ | refine Ev.block ?_ | refine Ev.skip ?_ | refine Ev.exit ?_ | refine Ev.ret ?_ | refine EvOps.nil ?_ | refine EvPlan.nil ?_
   | (with_reducible refine BxO ?_ ?_; · decide)
   )
  refine lsA (rl := [.cell 6 25]) rfl (hv := by
      simp only [leaveV, packV, strip, stripAgg, stripCell, List.map_cons, List.map_nil, show cx.grow 159 = false from rfl, show cx.keep 159 = false from rfl, show cx.frz 159 = false from rfl, if_false, if_true, Bool.false_eq_true]
      try simp (disch := omega) only [hdrop_ge, hdrop_hset, show hdrop n H = H from hw, ite_self, List.take_length]
      first | done | rfl)
theorem constM {H : List (Nat × Ob)} {n b : Nat} {tx : List UInt8} {nu a f o : Int} {ty : List UInt8} {m am a1 : Int} {l : List L.Tok} {d : Int} (h1 : 1 ≤ f) (h2 : f ≤ 28) (ho : o ≤ 2) (hb : hget H b = some (.cells (rdC (⟨2, tx, nu, a⟩ :: ⟨5, [47], 0, a1⟩ :: ⟨2, ty, m, am⟩ :: l) d))) (hbn : b < n) (hw : Wn H n) (hn : nu ≤ allN f) (hm0 : m ≠ 0) (hm : m ≤ allN f) :
    FnS cx 159 [.ptr b 0, .int .i64 f, .int .i64 o] ⟨H, n⟩ (isE f o ((BitVec.ofInt 64 nu &&& BitVec.ofInt 64 m).toNat : Int) m).c ⟨hset H b (.cells (rdC l d)), n + 12⟩ := by
  have e1 : decide (2 < o) = false := by simp; omega
  have e2 : decide (m = 0) = false := by simp [hm0]
  have e3 := gtF hm
  refine goS Tryz.func159 rfl rfl rfl rfl ?_
  intro t ht
  have a0 : tget t 0 = .ptr b 0 := ht 0 _ rfl
  have b1 : tget t 1 = .int .i64 f := ht 1 _ rfl
  have a2 : tget t 2 = .int .i64 o := ht 2 _ rfl
  clear ht
  have ex := And.intro @a0 (And.intro @b1 (And.intro @a2 (And.intro @hpB (And.intro @hpK (And.intro @zvE (And.intro @e1 (And.intro @e2 (And.intro @e3 @tkE))))))))
  repeat' (first
   | (with_reducible refine isO ?_); first | refine mvA (h := ?_) | refine asA (h := ?_) | refine quA (h := ?_) | refine wnA (h := ?_) | refine caA (hc := (okA b (⟨2, tx, nu, a⟩ :: ⟨5, [47], 0, a1⟩ :: ⟨2, ty, m, am⟩ :: l) d)) (h := ?_) | refine caA (hc := (nextA b 2 tx nu a (⟨5, [47], 0, a1⟩ :: ⟨2, ty, m, am⟩ :: l) d)) (h := ?_) | refine caA (hc := (nextA b 2 ty m am (l) d)) (h := ?_) | refine caA (hc := (valueS (b := b) h1 h2 (Wn.cons (by omega)) hn)) (h := ?_) | refine caA (hc := (allK f h1 h2 _)) (h := ?_) | refine caA (hc := (yesA b [47] 0 a1 (⟨2, ty, m, am⟩ :: l) d)) (h := ?_) | refine caA (hc := maskS) (h := ?_)
   | (with_reducible refine isG ?_); first | refine stA (h := ?_) | refine srA (h := ?_) | refine swA (h := ?_) | refine s1A (h := ?_) | refine s0A (h := ?_) | refine sgA (h1 := fun _ => ?_) (h0 := fun _ => ?_) | refine sbA (h1 := fun _ => ?_) (h0 := fun _ => ?_)
   | (with_reducible refine isP ?_); first | refine dqA (h := ?_) | refine dqAG (h := ?_) | refine dcAG (i := 11) (l := [9]) (hc := (allK f h1 h2 _)) (h := ?_) | refine dsA (h := ?_) | refine dtA (h := ?_) | refine dgA (h1 := fun _ => ?_) (h0 := fun _ => ?_)
   | (with_reducible refine isC ?_); first | refine ctA (h := ?_) | refine cfA (h := ?_) | refine cdA (h1 := fun _ => ?_) (h0 := fun _ => ?_) | refine cbA (h1 := fun _ => ?_) (h0 := fun _ => ?_)
   | (with_reducible refine isR ?_); first
     | refine Ev.drawn (by decide +kernel) (l := [0, 1, 2, 3, 4, 5, 6, 7, 8, 9, 10, 11, 12, 13]) (by decide +kernel) ?_
   | with_reducible first | refine Ev.seq ?_ | refine Ev.ops ?_ | refine NxE ?_ | refine BxN ?_ | refine BxX ?_ | refine NxX ?_ | refine NxR ?_ | refine BxR ?_ | refine Ev.block ?_ | refine Ev.skip ?_ | refine Ev.exit ?_ | refine Ev.ret ?_ | refine EvOps.nil ?_ | refine EvPlan.nil ?_
   | (with_reducible refine BxO ?_ ?_; · decide)
   )
  refine lsA (rl := [.cell 6 25]) rfl (hv := by
      simp only [leaveV, packV, strip, stripAgg, stripCell, List.map_cons, List.map_nil, show cx.grow 159 = false from rfl, show cx.keep 159 = false from rfl, show cx.frz 159 = false from rfl, if_false, if_true, Bool.false_eq_true]
      try simp (disch := omega) only [hdrop_ge, hdrop_hset, show hdrop n H = H from hw, ite_self, List.take_length]
      first | done | rfl)
end Go.Proofs.YtklcmgodhpediaaGreatDoor.K
