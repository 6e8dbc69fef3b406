/- The same, where the names that were made are given anew. -/
import Derived.Test.YtklcmgodhpediaaGreatDoorExK1
import Derived.Test.YtklcmgodhpediaaGreatDoorN26
set_option linter.unusedSimpArgs false
set_option linter.unusedVariables false
set_option maxRecDepth 100000
namespace Go.Proofs.YtklcmgodhpediaaGreatDoor.K
open Go Go.Vm Go.Proofs Go.Proofs.YtklcmgodhpediaaGreatDoor

theorem lowToks (n : Nat) : ∀ l : List L.Tok, lowL n (l.map L.Tok.v) = true
  | [] => rfl
  | t :: r => by rw [List.map_cons, lowL, lowToks n r]; rfl
theorem lowRd {n : Nat} {l : List L.Tok} {d : Int} : lowO n (.cells (rdC l d)) := by
  show lowL n (rdC l d) = true
  simp only [rdC, lowL, lowV, lowT, lowToks, Bool.and_self]
theorem lowTk {n : Nat} {t : L.Tok} : lowV n t.v = true := rfl
theorem lowTip {n : Nat} (z : Bool) : lowT n (tipB z) = true := by cases z <;> rfl
theorem lowE {n : Nat} : ∀ e : E, lowV n e.c = true := E.ind fun k f o v m z ps ih => by
  have h : ∀ ps : List E, (∀ q ∈ ps, lowV n q.c = true) → lowL n (E.cs ps) = true := by
    intro ps
    induction ps with
    | nil => intro _; rfl
    | cons e r ihr => intro h; simp only [E.cs, lowL, h e List.mem_cons_self, ihr fun q hq => h q (List.mem_cons_of_mem _ hq), Bool.and_self]
  simp only [E.c, lowV, lowL, lowTip, h ps ih, Bool.and_self]

theorem nextL {H : List (Nat × Ob)} {n b : Nat} {k : Int} {tx : List UInt8} {nu a : Int} {l : List L.Tok} {d : Int} (hb : hget H b = some (.cells (rdC (⟨k, tx, nu, a⟩ :: l) d))) (hl : Low n H) (hk : k ≠ 7) : FnS cx 103 [.ptr b 0] ⟨H, n⟩ (L.Tok.v ⟨k, tx, nu, a⟩) ⟨hset H b (.cells (rdC l d)), n⟩ :=
  (nextS hb (hl.lt hb) hl.wn hk).low lowTk (hl.set lowRd)
theorem opY {H : List (Nat × Ob)} {n b : Nat} {tx : List UInt8} {nu a : Int} {l : List L.Tok} {d : Int} (hb : hget H b = some (.cells (rdC (⟨5, tx, nu, a⟩ :: l) d))) (hl : Low n H) : FnS cx 83 [.ptr b 0, .str tx] ⟨H, n⟩ (.bool true) ⟨hset H b (.cells (rdC l d)), n⟩ :=
  (opYes hb (hl.lt hb) hl.wn).low rfl (hl.set lowRd)
theorem opN {H : List (Nat × Ob)} {n b : Nat} {k : Int} {tx tx' : List UInt8} {nu a : Int} {l : List L.Tok} {d : Int} (hb : hget H b = some (.cells (rdC (⟨k, tx, nu, a⟩ :: l) d))) (hl : Low n H) (hk : ¬ (k = 5 ∧ tx = tx')) : FnS cx 83 [.ptr b 0, .str tx'] ⟨H, n⟩ (.bool false) ⟨H, n⟩ :=
  (opNo hb (hl.lt hb) hl.wn hk).low rfl hl

/-! The same, found by what is known at the place of use. -/
/-! What a part of an expression is read to. -/
def PJ (k : FuncId) (av : List V) (b : Nat) (cap : List (Nat × Ob)) (d : Int) (l l' : List L.Tok) (e : E) : Prop :=
  ∀ (H : List (Nat × Ob)) (n : Nat), (∀ p ∈ cap, hget H p.1 = some p.2) → hget H b = some (.cells (rdC l d)) → Low n H → FnS cx k av ⟨H, n⟩ e.c ⟨hset H b (.cells (rdC l' d)), n⟩
def PS (k : FuncId) (d : Int) (l l' : List L.Tok) (e : E) : Prop := ∀ b, PJ k [.ptr b 0] b [] d l l' e
theorem constS' {H : List (Nat × Ob)} {n b : Nat} {tx : List UInt8} {nu a f o : Int} {l : List L.Tok} {d : Int} (h1 : 1 ≤ f) (h2 : f ≤ 28) (ho : 2 < o) (hb : hget H b = some (.cells (rdC (⟨2, tx, nu, a⟩ :: l) d))) (hl : Low n H) (hn : nu ≤ allN f) :
    FnS cx 159 [.ptr b 0, .int .i64 f, .int .i64 o] ⟨H, n⟩ (isE f o nu (allN f)).c ⟨hset H b (.cells (rdC l d)), n⟩ := (constS h1 h2 ho hb (hl.lt hb) hl.wn hn).low (lowE _) (hl.set lowRd)
theorem constN' {H : List (Nat × Ob)} {n b : Nat} {tx : List UInt8} {nu a f o k : Int} {ty : List UInt8} {nv av : Int} {l : List L.Tok} {d : Int} (h1 : 1 ≤ f) (h2 : f ≤ 28) (ho : o ≤ 2) (hb : hget H b = some (.cells (rdC (⟨2, tx, nu, a⟩ :: ⟨k, ty, nv, av⟩ :: l) d))) (hl : Low n H) (hn : nu ≤ allN f) (hk : ¬ (k = 5 ∧ ty = [47])) :
    FnS cx 159 [.ptr b 0, .int .i64 f, .int .i64 o] ⟨H, n⟩ (isE f o nu (allN f)).c ⟨hset H b (.cells (rdC (⟨k, ty, nv, av⟩ :: l) d)), n⟩ := (constN h1 h2 ho hb (hl.lt hb) hl.wn hn hk).low (lowE _) (hl.set lowRd)
theorem constM' {H : List (Nat × Ob)} {n b : Nat} {tx ty : List UInt8} {nu a f o m am a1 : Int} {l : List L.Tok} {d : Int} (h1 : 1 ≤ f) (h2 : f ≤ 28) (ho : o ≤ 2) (hb : hget H b = some (.cells (rdC (⟨2, tx, nu, a⟩ :: ⟨5, [47], 0, a1⟩ :: ⟨2, ty, m, am⟩ :: l) d))) (hl : Low n H) (hn : nu ≤ allN f) (hm0 : m ≠ 0) (hm : m ≤ allN f) :
    FnS cx 159 [.ptr b 0, .int .i64 f, .int .i64 o] ⟨H, n⟩ (isE f o ((BitVec.ofInt 64 nu &&& BitVec.ofInt 64 m).toNat : Int) m).c ⟨hset H b (.cells (rdC l d)), n⟩ := (constM h1 h2 ho hb (hl.lt hb) hl.wn hn hm0 hm).low (lowE _) (hl.set lowRd)

/-! Slices of parts that grow. -/
theorem appK {H : List (Nat × Ob)} {n : Nat} {T : Tip} {xs : List V} {u : Tip} {e : E} {m : Nat} (hT : okTip m H n T) (hz : e.z = false) (hx : szOk 6 xs = true) (hl : (xs.length + 1) * 64 ≤ 2 ^ 47) :
    appendV cx ⟨H, n⟩ 23 (.sl T xs) (.sl u [e.c]) = some (.sl (.own n) (xs ++ [e.c]), ⟨(n, .tip 6) :: delT T H, n + 1⟩) := appT (m := m) hT hz hx hl
theorem bsK {e : E} (h : e.z = false) : buildSliceV cx 23 1 [(0, e.c)] = some (.sl .full [e.c]) := bs23 h
theorem lowDel {n : Nat} {H : List (Nat × Ob)} (T : Tip) (h : Low n H) : Low n (delT T H) := by
  cases T with
  | own b => exact fun p hp => h p ((hdel_sub H b).subset hp)
  | none => exact h
  | full => exact h
theorem hset_same {b : Nat} {x : Ob} : ∀ {H : List (Nat × Ob)}, hget H b = some x → hset H b x = H
  | [], h => rfl
  | (i, o) :: r, h => by
    by_cases hi : i = b
    · subst hi
      simp only [hget, beq_self_eq_true, if_true, Option.some.injEq] at h
      subst h
      simp only [hset, beq_self_eq_true, if_true]
    · have h2 : (i == b) = false := by simpa using hi
      simp only [hget, h2, Bool.false_eq_true, if_false] at h
      simp only [hset, h2, Bool.false_eq_true, if_false, hset_same h]
theorem hset_not {b : Nat} {x : Ob} : ∀ {H : List (Nat × Ob)}, (∀ p ∈ H, p.1 ≠ b) → hset H b x = H
  | [], h => rfl
  | (i, o) :: r, h => by
    have h2 : (i == b) = false := by simpa using h _ List.mem_cons_self
    simp only [hset, h2, Bool.false_eq_true, if_false, hset_not fun p hp => h p (List.mem_cons_of_mem _ hp)]
theorem hdrop_set {n b : Nat} {x : Ob} (hb : n ≤ b) : ∀ {H : List (Nat × Ob)}, Low n (hdrop n H) → hdrop n (hset H b x) = hdrop n H
  | [], _ => rfl
  | (i, o) :: r, h => by
    rcases Nat.lt_or_ge i n with hn | hn
    · rw [hdrop_lt hn] at h
      rw [hset_not fun p hp => by have := (h p hp).1; omega]
    · rw [hdrop_ge hn] at h
      by_cases hi : i = b
      · subst hi
        simp only [hset, beq_self_eq_true, if_true]
        rw [hdrop_ge hn, hdrop_ge hn]
      · have h2 : (i == b) = false := by simpa using hi
        simp only [hset, h2, Bool.false_eq_true, if_false]
        rw [hdrop_ge hn, hdrop_ge hn, hdrop_set hb h]
theorem hset_hdel {b m : Nat} {x : Ob} (hbm : b ≠ m) : ∀ H : List (Nat × Ob), hdel (hset H b x) m = hset (hdel H m) b x
  | [] => rfl
  | (i, o) :: r => by
    by_cases hi : i = b
    · subst hi
      have h1 : (i == m) = false := by simpa using hbm
      simp only [hset, hdel, beq_self_eq_true, if_true, h1, Bool.false_eq_true, if_false]
    · have h2 : (i == b) = false := by simpa using hi
      by_cases hm : i = m
      · subst hm
        simp only [hset, hdel, h2, Bool.false_eq_true, if_false, beq_self_eq_true, if_true]
      · have h1 : (i == m) = false := by simpa using hm
        simp only [hset, hdel, h2, h1, Bool.false_eq_true, if_false, hset_hdel hbm r]
inductive Jt (op : List UInt8) (P : List L.Tok → List L.Tok → E → Prop) : List L.Tok → List L.Tok → List E → Prop
  | stop {k : Int} {tx : List UInt8} {nu a : Int} {l : List L.Tok} : ¬ (k = 5 ∧ tx = op) → Jt op P (⟨k, tx, nu, a⟩ :: l) (⟨k, tx, nu, a⟩ :: l) []
  | more {nu a : Int} {l l1 l' : List L.Tok} {e : E} {es : List E} : P l l1 e → e.z = false → Jt op P l1 l' es → Jt op P (⟨5, op, nu, a⟩ :: l) l' (e :: es)
def jr (kd : Int) (e : E) : List E → E
  | [] => e
  | e2 :: r => .mk kd 0 0 0 0 false (e :: e2 :: r)
theorem jr_z {kd : Int} {e : E} {es : List E} (h : e.z = false) : (jr kd e es).z = false := by
  cases es with
  | nil => exact h
  | cons _ _ => rfl
end Go.Proofs.YtklcmgodhpediaaGreatDoor.K
/- Parts with an operator between them. -/
namespace Go.Proofs.YtklcmgodhpediaaGreatDoor.K
open Go Go.Vm Go.Proofs Go.Proofs.YtklcmgodhpediaaGreatDoor

theorem cs1 (e : E) : E.cs [e] = [e.c] := rfl
theorem two_len (e e2 : E) (r : List E) : decide (((E.cs (e :: e2 :: r)).length : Int) = 1) = false := by
  rw [cs_len]; simp only [List.length_cons]; exact decide_eq_false (by omega)
theorem cs_snoc (l : List E) (e : E) : E.cs l ++ [e.c] = E.cs (l ++ [e]) := by simp [E.cs_map]
structure JI (H0 : List (Nat × Ob)) (n0 b : Nat) (cap : List (Nat × Ob)) (d : Int) (l : List L.Tok) (T : Tip) (H : List (Nat × Ob)) (n : Nat) : Prop where
  rb : hget H b = some (.cells (rdC (l) d))
  c8 : hget H n0 = some (.cells [.int .i64 0, .int .i64 0, .int .i64 0, .int .u64 0, .int .u64 0, .sl .full []])
  cap : ∀ p ∈ cap, hget H p.1 = some p.2
  low : Low n H
  tip : okTip (n0 + 1) H n T
  pos : n0 < n
  end1 : ∀ x, hdrop n0 (hset H b x) = hset H0 b x
  end2 : ∀ x, hdrop n0 (hset (delT T H) b x) = hset H0 b x
theorem JI.set {H0 : List (Nat × Ob)} {n0 b : Nat} {cap : List (Nat × Ob)} {d : Int} {l l' : List L.Tok} {T : Tip} {H : List (Nat × Ob)} {n : Nat} (h : JI H0 n0 b cap d l T H n) (hb : b < n0) (hc : ∀ p ∈ cap, p.1 ≠ b) : JI H0 n0 b cap d l' T (hset H b (.cells (rdC (l') d))) n := by
  refine ⟨by rw [hpK.2.1, h.rb]; rfl, by rw [hpK.1 _ _ _ _ (by omega)]; exact h.c8, fun p hp => by rw [hpK.1 _ _ _ _ (hc p hp)]; exact h.cap p hp, h.low.set lowRd, ?_, h.pos, fun x => by rw [hset_hset]; exact h.end1 x, fun x => ?_⟩
  · rcases h.tip with rfl | ⟨m, rfl, h1, h2, h3⟩
    · exact .inl rfl
    · exact .inr ⟨m, rfl, by rw [hpK.1 _ _ _ _ (by omega)]; exact h1, h2, h3⟩
  · have := h.end2 x
    rcases h.tip with rfl | ⟨m, rfl, h1, h2, h3⟩
    · simp only [delT, hset_hset] at this ⊢; exact this
    · simp only [delT] at this ⊢
      rw [hset_hdel (by omega), hset_hset]; exact this
theorem JI.app {H0 : List (Nat × Ob)} {n0 b : Nat} {cap : List (Nat × Ob)} {d : Int} {l : List L.Tok} {T : Tip} {H : List (Nat × Ob)} {n : Nat} (h : JI H0 n0 b cap d l T H n) (hb : b < n0) (hc : ∀ p ∈ cap, p.1 < n0) : JI H0 n0 b cap d l (.own n) ((n, .tip 6) :: delT T H) (n + 1) := by
  have hn := h.pos
  have e : ∀ c, c ≤ n0 → hget ((n, .tip 6) :: delT T H) c = hget H c := fun c hc => by
    rw [hpK.2.2.1 _ _ _ _ (by omega)]
    exact delT_get h.tip (by omega)
  have e3 : ∀ x, hset ((n, .tip 6) :: delT T H) b x = (n, .tip 6) :: hset (delT T H) b x := fun x => hpK.2.2.2.2.1 _ _ _ _ _ (by omega)
  have e4 : hdel ((n, .tip 6) :: delT T H) n = delT T H := by simp [hdel]
  refine ⟨by rw [e _ (by omega)]; exact h.rb, by rw [e _ (by omega)]; exact h.c8, fun p hp => by rw [e _ (by have := hc p hp; omega)]; exact h.cap p hp, ((lowDel T h.low).le (by omega)).cons (by omega) trivial, .inr ⟨n, rfl, hpK.2.2.2.1 _ _ _, by omega, by omega⟩, by omega, fun x => ?_, fun x => ?_⟩
  · rw [e3, hdrop_ge (by omega)]; exact h.end2 x
  · show hdrop n0 (hset (hdel ((n, .tip 6) :: delT T H) n) b x) = _
    rw [e4]; exact h.end2 x

set_option maxHeartbeats 16000000 in
theorem joinedG {H0 : List (Nat × Ob)} {n0 b pk : Nat} {fi ca : List V} {cap : List (Nat × Ob)} {kd d : Int} {op : List UInt8} {l0 l1 l' : List L.Tok} {e : E} {es : List E} (hcb : ∀ p ∈ cap, p.1 ≠ b) (hcg : ∀ p ∈ cap, hget H0 p.1 = some p.2) (hb0 : hget H0 b = some (.cells (rdC (l0) d))) (hl0 : Low n0 H0) (hlen : es.length ≤ 2199023255551)
    (hp : PJ pk (fi ++ ca) b cap d l0 l1 e) (hz : e.z = false) (ht : Jt op (PJ pk (fi ++ ca) b cap d) l1 l' es) :
    FnS cx 57 [.ptr b 0, .int .i64 kd, .str op, .func (.func pk) fi ca] ⟨H0, n0⟩ (jr kd e es).c ⟨hset H0 b (.cells (rdC (l') d)), n0 + (es.length + 1)⟩ := by
  have hbn := hl0.lt hb0
  have hcn : ∀ p ∈ cap, p.1 < n0 := fun p hp => hl0.lt (hcg p hp)
  have hw : hdrop n0 H0 = H0 := hl0.wn
  have hp1 : ∀ cs, cs = [.int .i64 0, .int .i64 0, .int .i64 0, .int .u64 0, .int .u64 0, .sl .full []] → FnS cx pk (fi ++ ca) ⟨(n0, .cells cs) :: H0, n0 + 1⟩ e.c ⟨(n0, .cells cs) :: hset H0 b (.cells (rdC (l1) d)), n0 + 1⟩ := fun cs hcs => by
    subst hcs
    have := hp ((n0, .cells [.int .i64 0, .int .i64 0, .int .i64 0, .int .u64 0, .int .u64 0, .sl .full []]) :: H0) (n0 + 1) (fun p hp => by rw [hpK.2.2.1 _ _ _ _ (by have := hcn p hp; omega)]; exact hcg p hp) (by rw [hpK.2.2.1 _ _ _ _ (by omega)]; exact hb0) ((hl0.le (by omega)).cons (by omega) (by rfl))
    rw [hpK.2.2.2.2.1 _ _ _ _ _ (by omega)] at this
    exact this
  have hbs := bsK hz
  have hJ : JI H0 n0 b cap d l1 .full ((n0, .cells [.int .i64 0, .int .i64 0, .int .i64 0, .int .u64 0, .int .u64 0, .sl .full []]) :: hset H0 b (.cells (rdC (l1) d))) (n0 + 1) := by
    have hb1 : hget (hset H0 b (.cells (rdC (l1) d))) b = some (.cells (rdC (l1) d)) := by rw [hpK.2.1, hb0]; rfl
    refine ⟨by rw [hpK.2.2.1 _ _ _ _ (by omega)]; exact hb1, hpK.2.2.2.1 _ _ _, fun p hp => by rw [hpK.2.2.1 _ _ _ _ (by have := hcn p hp; omega), hpK.1 _ _ _ _ (hcb p hp)]; exact hcg p hp, ((hl0.set lowRd).le (by omega)).cons (by omega) (by rfl), .inl rfl, by omega, fun x => ?_, fun x => ?_⟩
    · rw [hpK.2.2.2.2.1 _ _ _ _ _ (by omega), hset_hset, hdrop_ge (by omega), hdrop_hset hbn, hw]
    · show hdrop n0 (hset ((n0, _) :: _) b x) = _
      rw [hpK.2.2.2.2.1 _ _ _ _ _ (by omega), hset_hset, hdrop_ge (by omega), hdrop_hset hbn, hw]
  generalize hy : e.c = y at hp1 hbs
  have hy2 : ∃ cs, y = .agg cs := by rw [← hy]; cases e; exact ⟨_, rfl⟩
  refine goS Tryz.func57 rfl rfl rfl rfl ?_
  intro t ht
  have a0 : tget t 0 = .ptr b 0 := ht 0 _ rfl
  have a1 : tget t 1 = .int .i64 kd := ht 1 _ rfl
  have a2 : tget t 2 = .str op := ht 2 _ rfl
  have a3 : tget t 3 = .func (.func pk) fi ca := ht 3 _ rfl
  clear ht
  have ex := And.intro @a0 (And.intro @a1 (And.intro @a2 (And.intro @a3 (And.intro @hpB (And.intro @hpK (And.intro @zvE @hbs))))))
  repeat' (first
   | (with_reducible refine isO ?_); first | refine mvA (h := ?_) | refine asA (h := ?_) | refine quA (h := ?_) | refine wnA (h := ?_) | refine waA (h := ?_) | refine caA (hc := (hp1 _ rfl)) (h := ?_)
   | (with_reducible refine isC ?_); first | refine ctA (h := ?_) | refine cfA (h := ?_) | refine cdA (h1 := fun _ => ?_) (h0 := fun _ => ?_) | refine cbA (h1 := fun _ => ?_) (h0 := fun _ => ?_)
   | with_reducible first | refine Ev.seq ?_ | refine Ev.ops ?_ | refine NxE ?_ | refine BxN ?_ | refine BxX ?_ | refine NxX ?_ | refine NxR ?_ | refine BxR ?_ | refine Ev.block ?_ | refine Ev.skip ?_ | refine Ev.exit ?_ | refine Ev.ret ?_ | refine EvOps.nil ?_ | refine EvPlan.nil ?_
   | (with_reducible refine BxO ?_ ?_; · decide)
   )
  refine loopT (fun r t st => ∃ (acc rest : List E) (l : List L.Tok) (H : List (Nat × Ob)) (n : Nat) (T : Tip), r = rest.length ∧ acc ≠ [] ∧ acc ++ rest = e :: es ∧ JI H0 n0 b cap d l T H n ∧ n = n0 + acc.length ∧ Jt op (PJ pk (fi ++ ca) b cap d) l l' rest ∧ tget t 0 = .ptr b 0 ∧ tget t 1 = .int .i64 kd ∧ tget t 2 = .str op ∧ tget t 3 = .func (.func pk) fi ca ∧ tget t 8 = .ptr n0 0 ∧ tget t 9 = .sl T (E.cs acc) ∧ st = ⟨H, n⟩) (n := es.length) ?_ ?_
  · refine ⟨[e], es, l1, _, _, .full, rfl, by simp, rfl, hJ, rfl, ht, ?_, ?_, ?_, ?_, ?_, ?_, rfl⟩
    · simp only [↓evP, ↓tgP, ↓reduceIte, Nat.reduceEqDiff, reduceCtorEq, List.map_cons, List.map_nil, List.nil_append, List.append_nil, List.toList_toArray, a0]
    · simp only [↓evP, ↓tgP, ↓reduceIte, Nat.reduceEqDiff, reduceCtorEq, List.map_cons, List.map_nil, List.nil_append, List.append_nil, List.toList_toArray, a1]
    · simp only [↓evP, ↓tgP, ↓reduceIte, Nat.reduceEqDiff, reduceCtorEq, List.map_cons, List.map_nil, List.nil_append, List.append_nil, List.toList_toArray, a2]
    · simp only [↓evP, ↓tgP, ↓reduceIte, Nat.reduceEqDiff, reduceCtorEq, List.map_cons, List.map_nil, List.nil_append, List.append_nil, List.toList_toArray, a3]
    · simp only [↓evP, ↓tgP, ↓reduceIte, Nat.reduceEqDiff, reduceCtorEq, List.map_cons, List.map_nil, List.nil_append, List.append_nil, List.toList_toArray, a3]
    · simp only [↓evP, ↓tgP, ↓reduceIte, Nat.reduceEqDiff, reduceCtorEq, List.map_cons, List.map_nil, List.nil_append, List.append_nil, List.toList_toArray, a3]; rw [cs1, hy]
  clear hp hp1 hJ a0 a1 a2 a3
  rintro r t st ⟨acc, rest, l, H, n, T, rfl, hacc, hsum, hJ, hn, hjt, c0, c1, c2, c3, c8, c9, rfl⟩
  have hlen2 : acc.length + rest.length = es.length + 1 := by rw [← List.length_append, hsum]; rfl
  have hb := hJ.rb
  have hl := hJ.low
  have h8 := hJ.c8
  have hne : n0 ≠ b := by omega
  cases hjt with
  | @more nu a l1 l2 l3 e1 es1 hq hz1 ht1 =>
    have hJ1 := hJ.set (l' := l1) hbn hcb
    have hpt := hq _ n hJ1.cap hJ1.rb hJ1.low
    rw [hset_hset] at hpt
    have hJ2 := hJ.set (l' := l2) hbn hcb
    have hJ3 := hJ2.app hbn hcn
    have hbs2 := bsK hz1
    have hap : ∀ u, appendV cx _ 23 (.sl T (E.cs acc)) (.sl u [e1.c]) = _ := fun u => appK (u := u) hJ2.tip hz1 (szOk_cs _) (by rw [cs_len]; simp only [List.length_cons] at hlen2; omega)
    rw [cs_snoc] at hap
    generalize hy1 : e1.c = y1 at hpt hbs2 hap
    have ex := And.intro @c0 (And.intro @c1 (And.intro @c2 (And.intro @c3 (And.intro @c8 (And.intro @c9 (And.intro @hpB (And.intro @hb (And.intro @zvE (And.intro @hbs2 @hap)))))))))
    repeat' (first
     | (with_reducible refine isO ?_); first | refine mvA (h := ?_) | refine asA (h := ?_) | refine quA (h := ?_) | refine wnA (h := ?_) | refine waA (h := ?_) | refine caA (hc := hpt) (h := ?_) | refine caA (hc := (opY hb hl)) (h := ?_)
     | (with_reducible refine isC ?_); first | refine ctA (h := ?_) | refine cfA (h := ?_) | refine cdA (h1 := fun _ => ?_) (h0 := fun _ => ?_) | refine cbA (h1 := fun _ => ?_) (h0 := fun _ => ?_)
     | with_reducible first | refine Ev.seq ?_ | refine Ev.ops ?_ | refine NxE ?_ | refine BxN ?_ | refine BxX ?_ | refine NxX ?_ | refine NxR ?_ | refine BxR ?_ | refine Ev.block ?_ | refine Ev.skip ?_ | refine Ev.exit ?_ | refine Ev.ret ?_ | refine EvOps.nil ?_ | refine EvPlan.nil ?_
     | (with_reducible refine BxO ?_ ?_; · decide)
     )
    refine ⟨es1.length, by simp, rfl, acc ++ [e1], es1, _, _, _, _, rfl, by simp, by rw [← hsum]; simp, hJ3, ?_, ht1, ?_, ?_, ?_, ?_, ?_, ?_, rfl⟩
    · simp; omega
    · simp only [↓evP, ↓tgP, ↓reduceIte, Nat.reduceEqDiff, reduceCtorEq, List.map_cons, List.map_nil, List.nil_append, List.append_nil, List.toList_toArray, c0]
    · simp only [↓evP, ↓tgP, ↓reduceIte, Nat.reduceEqDiff, reduceCtorEq, List.map_cons, List.map_nil, List.nil_append, List.append_nil, List.toList_toArray, c1]
    · simp only [↓evP, ↓tgP, ↓reduceIte, Nat.reduceEqDiff, reduceCtorEq, List.map_cons, List.map_nil, List.nil_append, List.append_nil, List.toList_toArray, c2]
    · simp only [↓evP, ↓tgP, ↓reduceIte, Nat.reduceEqDiff, reduceCtorEq, List.map_cons, List.map_nil, List.nil_append, List.append_nil, List.toList_toArray, c3]
    · simp only [↓evP, ↓tgP, ↓reduceIte, Nat.reduceEqDiff, reduceCtorEq, List.map_cons, List.map_nil, List.nil_append, List.append_nil, List.toList_toArray, c8]
    · simp only [↓evP, ↓tgP, ↓reduceIte, Nat.reduceEqDiff, reduceCtorEq, List.map_cons, List.map_nil, List.nil_append, List.append_nil, List.toList_toArray, c9]
  | @stop k tx nu a l hk =>
    have hh := hset_same hb
    have hn2 : n = n0 + (es.length + 1) := by simp only [List.length_nil] at hlen2; omega
    subst hn2
    rw [List.append_nil] at hsum
    subst hsum
    have hend := hJ.end1 (.cells (rdC (⟨k, tx, nu, a⟩ :: l) d))
    rw [hh] at hend
    have hend2 : ∀ x, hdrop n0 (hset H n0 x) = _ := fun x => (hdrop_set (Nat.le_refl _) (by rw [hend]; exact hl0.set lowRd)).trans hend
    cases es with
    | nil =>
      obtain ⟨k', f', o', v', m', z', ps'⟩ := e
      have hz' : z' = false := hz
      subst hz'
      rw [cs1, E.c] at c9
      clear hy hy2 hbs
      have ex := And.intro @c0 (And.intro @c1 (And.intro @c2 (And.intro @c3 (And.intro @c8 (And.intro @c9 (And.intro @hpB (And.intro @hb (And.intro @h8 (And.intro @hpK @zvE)))))))))
      repeat' (first
       | (with_reducible refine isO ?_); first | refine mvA (h := ?_) | refine asA (h := ?_) | refine quA (h := ?_) | refine wnA (h := ?_) | refine waA (h := ?_) | refine caA (hc := (opN hb hl hk)) (h := ?_)
       | (with_reducible refine isC ?_); first | refine ctA (h := ?_) | refine cfA (h := ?_) | refine cdA (h1 := fun _ => ?_) (h0 := fun _ => ?_) | refine cbA (h1 := fun _ => ?_) (h0 := fun _ => ?_)
       | with_reducible first | refine Ev.seq ?_ | refine Ev.ops ?_ | refine NxE ?_ | refine BxN ?_ | refine BxX ?_ | refine NxX ?_ | refine NxR ?_ | refine BxR ?_ | refine Ev.block ?_ | refine Ev.skip ?_ | refine Ev.exit ?_ | refine Ev.ret ?_ | refine EvOps.nil ?_ | refine EvPlan.nil ?_
       | (with_reducible refine BxO ?_ ?_; · decide)
       )
      refine lsA (rl := [.cell 8 25]) rfl (hv := by
      simp only [leaveV, packV, strip, stripAgg, stripCell, List.map_cons, List.map_nil, show cx.grow 57 = false from rfl, show cx.keep 57 = false from rfl, show cx.frz 57 = false from rfl, if_false, if_true, Bool.false_eq_true]
      try simp (disch := omega) only [hdrop_ge, hdrop_hset, hend2, ite_self, List.take_length]
      first | done | rfl)
    | cons e2 es2 =>
      have h2 := two_len e e2 es2
      clear hy hy2 hbs
      have ex := And.intro @c0 (And.intro @c1 (And.intro @c2 (And.intro @c3 (And.intro @c8 (And.intro @c9 (And.intro @hpB (And.intro @hb (And.intro @h8 (And.intro @hpK (And.intro @zvE @h2))))))))))
      repeat' (first
       | (with_reducible refine isO ?_); first | refine mvA (h := ?_) | refine asA (h := ?_) | refine quA (h := ?_) | refine wnA (h := ?_) | refine waA (h := ?_) | refine caA (hc := (opN hb hl hk)) (h := ?_)
       | (with_reducible refine isC ?_); first | refine ctA (h := ?_) | refine cfA (h := ?_) | refine cdA (h1 := fun _ => ?_) (h0 := fun _ => ?_) | refine cbA (h1 := fun _ => ?_) (h0 := fun _ => ?_)
       | with_reducible first | refine Ev.seq ?_ | refine Ev.ops ?_ | refine NxE ?_ | refine BxN ?_ | refine BxX ?_ | refine NxX ?_ | refine NxR ?_ | refine BxR ?_ | refine Ev.block ?_ | refine Ev.skip ?_ | refine Ev.exit ?_ | refine Ev.ret ?_ | refine EvOps.nil ?_ | refine EvPlan.nil ?_
       | (with_reducible refine BxO ?_ ?_; · decide)
       )
      refine lsA (rl := [.cell 8 25]) rfl (hv := by
      simp only [leaveV, packV, strip, stripAgg, stripCell, List.map_cons, List.map_nil, show cx.grow 57 = false from rfl, show cx.keep 57 = false from rfl, show cx.frz 57 = false from rfl, if_false, if_true, Bool.false_eq_true]
      try simp (disch := omega) only [hdrop_ge, hdrop_hset, hend2, ite_self, List.take_length]
      first | done | rfl)
end Go.Proofs.YtklcmgodhpediaaGreatDoor.K
