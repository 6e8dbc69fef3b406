/- The text of an expression; how long it is; the library's Join. -/
import Derived.Test.YtklcmgodhpediaaGreatDoorExR1
import Derived.Test.YtklcmgodhpediaaGreatDoorExSC
set_option linter.unusedSimpArgs false
set_option linter.unusedVariables false
set_option maxRecDepth 100000
namespace Go.Proofs.YtklcmgodhpediaaGreatDoor.P
open Go Go.Vm Go.Proofs Go.RowKit Go.Proofs.YtklcmgodhpediaaGreatDoor

def E.kd : E → Int | .mk k _ _ _ _ _ _ => k
def isT (f o v m : Int) : List UInt8 := cmpL (nmT f) o (K.hexT v.toNat) (allN f) m (K.hexT m.toNat)
mutual
def txE : E → List UInt8
  | .mk k f o v m _ ps => if k = 1 then [49] else if k = 2 then [48] else if k = 3 then isT f o v m else if k = 4 then 33 :: firstT ps else Lib.join (txEs ps) (if k = 5 then [32, 38, 38, 32] else [32, 124, 124, 32])
def txEs : List E → List (List UInt8)
  | [] => []
  | e :: r => (if E.kd e = 5 ∨ E.kd e = 6 then 40 :: (txE e ++ [41]) else txE e) :: txEs r
def firstT : List E → List UInt8
  | [] => []
  | e :: _ => if E.kd e = 3 ∨ E.kd e = 5 ∨ E.kd e = 6 then 40 :: (txE e ++ [41]) else txE e
end
def brT (bs : List Int) (e : E) : List UInt8 := if E.kd e ∈ bs then 40 :: (txE e ++ [41]) else txE e
theorem br_nil (e : E) : brT [] e = txE e := by simp [brT]
theorem txEs_map : ∀ ps : List E, txEs ps = ps.map (brT [5, 6])
  | [] => rfl
  | e :: r => by rw [txEs, List.map_cons, txEs_map r]; simp [brT]
theorem first_br {ps : List E} {q : E} (h : ps[0]? = some q) : firstT ps = brT [3, 5, 6] q := by
  cases ps with
  | nil => cases h
  | cons a r =>
    obtain rfl : a = q := by simpa using h
    simp [firstT, brT]
mutual
def ndE : E → Nat
  | .mk _ _ _ _ _ _ ps => 1 + ndEs ps
def ndEs : List E → Nat
  | [] => 0
  | e :: r => ndE e + ndEs r
end
theorem nd_mem : ∀ {ps : List E} {q : E}, q ∈ ps → ndE q ≤ ndEs ps
  | e :: r, q, h => by
    rw [ndEs]
    cases h with
    | head => omega
    | tail _ h => have := nd_mem h; omega
theorem nm_len : ∀ f : Int, (nmT f).length ≤ 9 := by
  intro f
  unfold nmT
  have h : ∀ x ∈ nmL, x.length ≤ 9 := by decide +kernel
  rcases Nat.lt_or_ge f.toNat nmL.length with hl | hl
  · rw [List.getD_eq_getElem?_getD, List.getElem?_eq_getElem hl]
    exact h _ (List.getElem_mem hl)
  · rw [List.getD_eq_getElem?_getD, List.getElem?_eq_none hl]; simp
theorem opT_le (o : Int) : (opT o).length ≤ 2 := by
  unfold opT
  repeat' split
  all_goals decide
theorem hexT_le {v : Int} (h : v < 18446744073709551616) : (K.hexT v.toNat).length ≤ 18 := by
  have := L.hexU_length v.toNat 15 (by omega)
  simp only [K.hexT, List.length_cons]; omega
theorem isT_len {f o v m : Int} (hv : v < 18446744073709551616) (hm : m < 18446744073709551616) : (isT f o v m).length ≤ 54 := by
  have h1 := nm_len f
  have h2 := opT_le o
  have h3 := hexT_le hv
  have h4 := hexT_le hm
  unfold isT cmpL
  split
  all_goals
    simp only [List.length_append, List.length_cons, List.length_nil]; omega
theorem br_len (bs : List Int) (e : E) : (brT bs e).length ≤ (txE e).length + 2 := by
  unfold brT
  split
  · simp
  · omega
theorem txEs_len : ∀ {ps : List E}, (∀ p ∈ ps, (txE p).length + 10 ≤ 64 * ndE p) → Lib.lens (txEs ps) + 8 * ps.length ≤ 64 * ndEs ps
  | [], _ => Nat.zero_le _
  | e :: r, h => by
    have h1 := h e List.mem_cons_self
    have h2 := txEs_len (ps := r) fun p hp => h p (List.mem_cons_of_mem _ hp)
    have h3 := br_len [5, 6] e
    rw [txEs_map] at h2 ⊢
    simp only [List.map_cons, Lib.lens, List.sum_cons, List.length_cons, ndEs] at h2 ⊢
    omega
theorem txE_len : ∀ e : E, e.Ok → (txE e).length + 10 ≤ 64 * ndE e := E.ind fun k f o v m z ps ih => by
  intro hok
  obtain ⟨_, _, _, hv, hm, _, hpo⟩ := hok
  have hps : ∀ p ∈ ps, (txE p).length + 10 ≤ 64 * ndE p := fun p hp => ih p hp (hpo p hp)
  have hl := txEs_len hps
  rw [txE, ndE]
  split
  · simp; omega
  split
  · simp; omega
  split
  · have := isT_len (f := f) (o := o) (v := v) (m := m) (by omega) (by omega); omega
  split
  · cases ps with
    | nil => simp [firstT]; omega
    | cons p r =>
      have h1 := hps p List.mem_cons_self
      have h2 := br_len [3, 5, 6] p
      rw [first_br (q := p) rfl]
      simp only [List.length_cons, ndEs]; omega
  · cases ps with
    | nil => rw [txEs, Lib.join_nil]; simp; omega
    | cons p r =>
      rw [txEs] at hl ⊢
      rw [Lib.join_length]
      have h4 : (if k = 5 then ([32, 38, 38, 32] : List UInt8) else [32, 124, 124, 32]).length = 4 := by split <;> rfl
      have h5 : (txEs r).length = r.length := by rw [txEs_map, List.length_map]
      rw [h4, h5]
      simp only [List.length_cons] at hl
      omega
theorem joinS {tip : Tip} {l : List (List UInt8)} {sep : List UInt8} (hl : (Lib.join l sep).length ≤ 140737488355328) (hn : l.length ≤ 140737488355328) (st : St) : FnS cx 37 [.sl tip (l.map .str), .str sep] st (.str (Lib.join l sep)) st := by
  refine ⟨⟨fun hC _ _ => ACS.of (v := .str (Lib.join l sep)) (st' := st) ?_ ⟨rfl, rfl⟩⟩⟩
  refine AC_of hC ⟨_, Tryz.func37, by kernel_rfl⟩ fun g w args' hst _ _ ha => ?_
  obtain ⟨v0, r0, e0, hv0, v1, r1, e1, hv1, e2⟩ := ha
  subst e2; subst e1
  obtain rfl : args' = #[v0, v1] := by cases args'; simp_all
  simp only [VR] at hv1
  obtain ⟨a, cap, vs, S, rfl, h2, _, h4, h5⟩ := hv0
  subst hv1
  cases l with
  | nil => exact (Tryz.strings_Join_none a cap ⟨sep.toArray⟩ w).mono fun e w' ⟨he, hw⟩ => ⟨_, he, by simp [VR, Lib.join_nil], hw ▸ Below.refl _ _⟩
  | cons s l =>
    obtain ⟨B, o, rfl, hrow⟩ := h5 (by simp)
    have hvs := VRe_strs h2
    have hcell : ∀ (j : Nat) x, ((s :: l).map fun s => (⟨s.toArray⟩ : ByteArray))[j]? = some x → w.cell? ⟨B, o + j, none⟩ = some (.string x) := fun j x hx => by
      refine hst _ _ _ (hrow j _ ?_)
      rw [hvs]
      simp only [List.getElem?_map, Option.map_eq_some_iff] at hx ⊢
      obtain ⟨y, hy, rfl⟩ := hx
      exact ⟨y, hy, rfl⟩
    have hm : ((s :: l).map fun s => (⟨s.toArray⟩ : ByteArray)).map (·.data.toList) = s :: l := by
      rw [List.map_map]
      exact (List.map_congr_left (fun x _ => by simp)).trans (List.map_id _)
    have hB : B < w.heap.size := lt_of_cell (hcell 0 _ rfl)
    have := Tryz.strings_Join B o cap ((s :: l).map fun s => (⟨s.toArray⟩ : ByteArray)) ⟨sep.toArray⟩ w hcell hB (by simp only [List.length_map]; omega) (by simpa using h4) (by rw [hm]; simpa using hl)
    rw [hm] at this
    simp only [List.length_map] at this ⊢
    refine this.mono fun e w' ⟨he, hb⟩ => ⟨_, he, ?_, hb⟩
    simp [VR]
def okTip1 (m : Nat) (H : List (Nat × Ob)) (n : Nat) (T : Tip) : Prop := T = .full ∨ ∃ b, T = .own b ∧ hget H b = some (.tip 1) ∧ m ≤ b ∧ b < n
theorem del1_get {H : List (Nat × Ob)} {n : Nat} {T : Tip} {c m : Nat} (h : okTip1 m H n T) (hc : c < m) : hget (delT T H) c = hget H c := by
  rcases h with rfl | ⟨b, rfl, _, h3, _⟩
  · rfl
  · exact hget_hdel_ne (by omega)
theorem bsS (s : List UInt8) : buildSliceV cx 74 1 [(0, .str s)] = some (.sl .full [.str s]) := by rfl
theorem szOk_strs (l : List (List UInt8)) : szOk 1 (l.map V.str) = true := by cases l <;> rfl
theorem appS {H : List (Nat × Ob)} {n : Nat} {T : Tip} {l : List (List UInt8)} {u : Tip} {s : List UInt8} {m : Nat} (hT : okTip1 m H n T) (hl : (l.length + 1) * 16 ≤ 2 ^ 47) :
    appendV cx ⟨H, n⟩ 74 (.sl T (l.map V.str)) (.sl u [.str s]) = some (.sl (.own n) ((l ++ [s]).map V.str), ⟨(n, .tip 1) :: delT T H, n + 1⟩) := by
  have hx := szOk_strs l
  have e1 : szOk 1 [V.str s] = true := rfl
  have e2 : szOf cx 9 = some 1 := by decide +kernel
  have e3 : zeroOk cx 9 1 = true := by decide +kernel
  have e4 : byOf cx 9 = 16 := by decide +kernel
  have e5 : cx.mutT 74 = false := rfl
  have hl2 : l.length + 1 ≤ 2 ^ 47 := by omega
  have hm : (l ++ [s]).map V.str = l.map V.str ++ [V.str s] := by simp
  rw [hm]
  rcases hT with rfl | ⟨b, rfl, hb, _, _⟩
  · simp only [appendV, addedV, tyE, e1, e2, e3, e4, e5, hx, List.length_cons, List.length_nil, List.length_map, List.isEmpty_cons, Bool.false_eq_true, if_false, List.map_cons, List.map_nil, delT, Nat.zero_add, Nat.zero_lt_succ, true_and, beq_self_eq_true, if_true, and_self, hl, hl2]
    rfl
  · simp only [appendV, addedV, tyE, e1, e2, e3, e4, e5, hx, hb, List.length_cons, List.length_nil, List.length_map, List.isEmpty_cons, Bool.false_eq_true, if_false, List.map_cons, List.map_nil, delT, Nat.zero_add, Nat.zero_lt_succ, true_and, beq_self_eq_true, if_true, and_self, hl, hl2]
    rfl
end Go.Proofs.YtklcmgodhpediaaGreatDoor.P
/- The text of an expression, walked. -/
namespace Go.Proofs.YtklcmgodhpediaaGreatDoor.P
open Go Go.Vm Go.Proofs Go.Proofs.YtklcmgodhpediaaGreatDoor

def ints (bs : List Int) : List V := bs.map fun b => .int .i64 b
theorem ints_get {bs : List Int} {i : Nat} {b : Int} (h : bs[i]? = some b) : (ints bs)[i]? = some (.int .i64 b) := by simp [ints, h]
theorem ints_len (bs : List Int) : (ints bs).length = bs.length := by simp [ints]
theorem ints_ok (bs : List Int) : szOk 1 (ints bs) = true := by cases bs <;> rfl
theorem ints_pure : ∀ bs : List Int, pureVs (ints bs) = true
  | [] => rfl
  | b :: r => by
    have := ints_pure r
    simp only [ints, List.map_cons, pureVs, pureV, Bool.true_and]
    exact this
theorem bs73 : buildSliceV cx 73 3 [(0, .int .i64 3), (1, .int .i64 5), (2, .int .i64 6)] = some (.sl .full [.int .i64 3, .int .i64 5, .int .i64 6]) ∧ buildSliceV cx 73 2 [(0, .int .i64 5), (1, .int .i64 6)] = some (.sl .full [.int .i64 5, .int .i64 6]) := ⟨by rfl, by rfl⟩
theorem zvR : zeroV cx 25 = some (.agg [.int .i64 0, .int .i64 0, .int .i64 0, .int .u64 0, .int .u64 0, .sl .full []]) ∧ (∀ cs, cellsOf (.agg cs) = some cs) := ⟨by rfl, fun _ => rfl⟩
theorem take_mem {α : Type} {l : List α} {i : Nat} {x : α} (h : l[i]? = some x) : x ∈ l := List.mem_of_getElem? h
theorem not_take {bs : List Int} {i : Nat} {b k : Int} (h : bs[i]? = some b) (h1 : ∀ x ∈ bs.take i, k ≠ x) (h2 : k ≠ b) : ∀ x ∈ bs.take (i + 1), k ≠ x := by
  intro x hx
  rw [List.take_add_one, h] at hx
  rcases List.mem_append.1 hx with hx | hx
  · exact h1 x hx
  · simp at hx; subst hx; exact h2
theorem tx_take {ps : List E} {i : Nat} {q : E} (h : ps[i]? = some q) : (ps.take (i + 1)).map (brT [5, 6]) = (ps.take i).map (brT [5, 6]) ++ [brT [5, 6] q] := by
  rw [List.take_add_one, h]; simp
theorem tx_take_len {ps : List E} {i : Nat} (h : i ≤ ps.length) : ((ps.take i).map (brT [5, 6])).length = i := by simp; omega

set_option maxHeartbeats 16000000 in
theorem textG (k f o v m : Int) (z : Bool) (ps : List E) (hok : (E.mk k f o v m z ps).Ok) (d : Int) (hd : okE d (.mk k f o v m z ps) = true) (hnd : ndE (.mk k f o v m z ps) ≤ 1099511627776)
    (ih : ∀ q ∈ ps, ∀ bs st, bs.length ≤ 1000 → FnS cx 22 [q.c, .sl .full (ints bs)] st (.str (brT bs q)) st) (bs : List Int) (hbl : bs.length ≤ 1000)
    (h0 : bs ≠ [] → ∀ st, FnS cx 22 [E.c (.mk k f o v m z ps), .sl .full []] st (.str (txE (.mk k f o v m z ps))) st) (st : St) :
    FnS cx 22 [E.c (.mk k f o v m z ps), .sl .full (ints bs)] st (.str (brT bs (.mk k f o v m z ps))) st := by
  have hle := txE_len _ hok
  obtain ⟨hk, hf, ho, hv, hm, hl, hpo⟩ := hok
  obtain ⟨hd64, hnode, hparts⟩ := okE_parts hd
  have hbr : ∀ b, b ∈ bs → k = b → brT bs (.mk k f o v m z ps) = 40 :: (txE (.mk k f o v m z ps) ++ [41]) := fun b hb hkb => by
    unfold brT; rw [if_pos (by show k ∈ bs; rw [hkb]; exact hb)]
  have hbn : (∀ b ∈ bs, k ≠ b) → brT bs (.mk k f o v m z ps) = txE (.mk k f o v m z ps) := fun h => by
    unfold brT; rw [if_neg (by show ¬ k ∈ bs; intro hm; exact h k hm rfl)]
  have hil := ints_len bs
  have hio := ints_ok bs
  have hip := ints_pure bs
  have hu := unown_c (.mk k f o v m z ps)
  have hp := E.pure (.mk k f o v m z ps)
  have hcl := cs_len ps
  have hso := szOk_cs ps
  have hui : unown (.sl .full (ints bs)) = .sl .full (ints bs) := rfl
  have hpi : pureV (.sl .full (ints bs)) = true := hip
  refine goP Tryz.func22 rfl rfl rfl rfl ?_ ?_
  · simp only [List.map_cons, List.map_nil, hu, hui, pureVs, hp, hpi, Bool.and_self]
  intro t ht
  have a0 : tget t 0 = E.c (.mk k f o v m z ps) := ht 0 _ (by simp only [List.map_cons, hu]; rfl)
  have a1 : tget t 1 = .sl .full (ints bs) := ht 1 _ rfl
  clear ht
  rw [E.c] at a0
  have htl : (txE (.mk k f o v m z ps)).length ≤ 100000000000000 := by omega
  have ex := And.intro @a0 (And.intro @a1 (And.intro @hil (And.intro @hcl (And.intro @hpB (And.intro @hpE (And.intro @hso (And.intro @hio @zvR)))))))
  repeat' (first
   | (with_reducible refine isO ?_); first | refine mvA (h := ?_) | refine asA (h := ?_) | refine quA (h := ?_) | refine wnA (h := ?_) | refine waA (h := ?_)
   | (with_reducible refine isC ?_); first | refine ctA (h := ?_) | refine cfA (h := ?_) | refine cdA (h1 := fun _ => ?_) (h0 := fun _ => ?_) | refine cbA (h1 := fun _ => ?_) (h0 := fun _ => ?_)
   | with_reducible first | refine Ev.seq ?_ | refine Ev.ops ?_ | refine NxE ?_ | refine BxN ?_ | refine BxX ?_ | refine NxX ?_ | refine NxR ?_ | refine BxR ?_ | refine Ev.block ?_ | refine Ev.skip ?_ | refine Ev.exit ?_ | refine Ev.ret ?_ | refine EvOps.nil ?_ | refine EvPlan.nil ?_
   | (with_reducible refine BxO ?_ ?_; · decide)
   )
  refine loopT (fun r t st => ∃ i : Nat, r = bs.length - i ∧ i ≤ bs.length ∧ (∀ x ∈ bs.take i, k ≠ x) ∧ tget t 2 = .ptr 0 0 ∧ tget t 10 = .sl .full (ints bs) ∧ tget t 11 = .int .i64 (bs.length : Nat) ∧ tget t 12 = .int .i64 (i : Nat) ∧ st = ⟨[(0, .cells [.int .i64 k, .int .i64 f, .int .i64 o, .int .u64 v, .int .u64 m, .sl (tipB z) (E.cs ps)])], 1⟩) (n := bs.length) ?_ ?_
  · refine ⟨0, by omega, by omega, by simp, ?_, ?_, ?_, ?_, rfl⟩
    · simp only [↓evP, ↓tgP, ↓reduceIte, Nat.reduceEqDiff, reduceCtorEq, List.map_cons, List.map_nil, List.nil_append, List.append_nil, List.toList_toArray, a0]
    · simp only [↓evP, ↓tgP, ↓reduceIte, Nat.reduceEqDiff, reduceCtorEq, List.map_cons, List.map_nil, List.nil_append, List.append_nil, List.toList_toArray, a1]
    · simp only [↓evP, ↓tgP, ↓reduceIte, Nat.reduceEqDiff, reduceCtorEq, List.map_cons, List.map_nil, List.nil_append, List.append_nil, List.toList_toArray, a1]
    · simp only [↓evP, ↓tgP, ↓reduceIte, Nat.reduceEqDiff, reduceCtorEq, List.map_cons, List.map_nil, List.nil_append, List.append_nil, List.toList_toArray, a1]; rfl
  clear a0 a1 hu hp hui hpi hip
  rintro r t st ⟨i, hr, hi, hno, c2, c10, c11, c12, rfl⟩
  rcases Nat.lt_or_ge i bs.length with hlt | hge
  · have hlt2 : decide ((i : Int) < (bs.length : Int)) = true := by simp; omega
    obtain ⟨b, hq⟩ : ∃ b, bs[i]? = some b := ⟨bs[i], by simp [hlt]⟩
    have hqc := ints_get hq
    have hh0 := h0 (by rintro rfl; simp at hlt)
    rw [E.c] at hh0
    by_cases hkb : k = b
    · have hkd : decide (k = b) = true := by simp [hkb]
      have hb := hbr b (take_mem hq) hkb
      rw [hb]
      generalize hX : txE (.mk k f o v m z ps) = X at hh0 htl
      have ex := And.intro @c2 (And.intro @c10 (And.intro @c11 (And.intro @c12 (And.intro @hil (And.intro @hio (And.intro @hqc (And.intro @hpB (And.intro @hpE (And.intro @zvR (And.intro @hlt2 @hkd))))))))))
      repeat' (first
       | (with_reducible refine isO ?_); first | refine mvA (h := ?_) | refine asA (h := ?_) | refine quA (h := ?_) | refine wnA (h := ?_) | refine waA (h := ?_) | refine caA (hc := (hh0 _)) (h := ?_)
       | (with_reducible refine isC ?_); first | refine ctA (h := ?_) | refine cfA (h := ?_) | refine cdA (h1 := fun _ => ?_) (h0 := fun _ => ?_) | refine cbA (h1 := fun _ => ?_) (h0 := fun _ => ?_)
       | with_reducible first | refine Ev.seq ?_ | refine Ev.ops ?_ | refine NxE ?_ | refine BxN ?_ | refine BxX ?_ | refine NxX ?_ | refine NxR ?_ | refine BxR ?_ | refine Ev.block ?_ | refine Ev.skip ?_ | refine Ev.exit ?_ | refine Ev.ret ?_ | refine EvOps.nil ?_ | refine EvPlan.nil ?_
       | (with_reducible refine BxO ?_ ?_; · decide)
       )
      refine lfA (rl := [.tmp 4]) rfl (hv := by
      simp only [packV, strip, stripAgg, stripCell, List.map_cons, List.map_nil]
      first | done | rfl) (hp := rfl)
    · have hkd : decide (k = b) = false := by simp [hkb]
      have ex := And.intro @c2 (And.intro @c10 (And.intro @c11 (And.intro @c12 (And.intro @hil (And.intro @hio (And.intro @hqc (And.intro @hpB (And.intro @hpE (And.intro @zvR (And.intro @hlt2 @hkd))))))))))
      repeat' (first
       | (with_reducible refine isO ?_); first | refine mvA (h := ?_) | refine asA (h := ?_) | refine quA (h := ?_) | refine wnA (h := ?_) | refine waA (h := ?_) | refine caA (hc := (hh0 _)) (h := ?_)
       | (with_reducible refine isC ?_); first | refine ctA (h := ?_) | refine cfA (h := ?_) | refine cdA (h1 := fun _ => ?_) (h0 := fun _ => ?_) | refine cbA (h1 := fun _ => ?_) (h0 := fun _ => ?_)
       | with_reducible first | refine Ev.seq ?_ | refine Ev.ops ?_ | refine NxE ?_ | refine BxN ?_ | refine BxX ?_ | refine NxX ?_ | refine NxR ?_ | refine BxR ?_ | refine Ev.block ?_ | refine Ev.skip ?_ | refine Ev.exit ?_ | refine Ev.ret ?_ | refine EvOps.nil ?_ | refine EvPlan.nil ?_
       | (with_reducible refine BxO ?_ ?_; · decide)
       )
      refine ⟨bs.length - (i + 1), by omega, rfl, i + 1, rfl, by omega, not_take hq hno hkb, ?_, ?_, ?_, ?_, rfl⟩
      · simp only [↓evP, ↓tgP, ↓reduceIte, Nat.reduceEqDiff, reduceCtorEq, List.map_cons, List.map_nil, List.nil_append, List.append_nil, List.toList_toArray, c2]
      · simp only [↓evP, ↓tgP, ↓reduceIte, Nat.reduceEqDiff, reduceCtorEq, List.map_cons, List.map_nil, List.nil_append, List.append_nil, List.toList_toArray, c10]
      · simp only [↓evP, ↓tgP, ↓reduceIte, Nat.reduceEqDiff, reduceCtorEq, List.map_cons, List.map_nil, List.nil_append, List.append_nil, List.toList_toArray, c11]
      · simp only [↓evP, ↓tgP, ↓reduceIte, Nat.reduceEqDiff, reduceCtorEq, List.map_cons, List.map_nil, List.nil_append, List.append_nil, List.toList_toArray, c12]; rfl
  · obtain rfl : i = bs.length := by omega
    have hlt2 : decide ((bs.length : Int) < (bs.length : Int)) = false := by simp
    rw [List.take_length] at hno
    rw [hbn hno]
    clear hbr hbn
    by_cases h4 : k = 4
    · subst h4
      have hn1 : ps.length = 1 := by unfold nodeP at hnode; omega
      obtain ⟨q, hq0, hqm, rfl⟩ := first_of hn1
      have hih := fun st => ih q hqm [3, 5, 6] st (by decide)
      have htx : txE (.mk 4 f o v m z [q]) = 33 :: brT [3, 5, 6] q := by rw [txE, if_neg (by decide), if_neg (by decide), if_neg (by decide), if_pos rfl, first_br (q := q) rfl]
      rw [htx] at htl ⊢
      generalize brT [3, 5, 6] q = X at hih htl
      have htl2 : X.length + 1 ≤ 100000000000000 := htl
      obtain ⟨q0, q1, q2, q3, q4, q5, hqc⟩ := c_six q
      have hih : ∀ st, FnS cx 22 [q.c, .sl .full [.int .i64 3, .int .i64 5, .int .i64 6]] st (.str X) st := hih
      rw [hqc] at hih
      have hcs : E.cs [q] = [.agg [q0, q1, q2, q3, q4, q5]] := by rw [E.cs, E.cs, hqc]
      rw [hcs]
      have ex := And.intro @c2 (And.intro @c10 (And.intro @c11 (And.intro @c12 (And.intro @hpB (And.intro @hpE (And.intro @zvR (And.intro @hlt2 @bs73)))))))
      repeat' (first
       | (with_reducible refine isO ?_); first | refine mvA (h := ?_) | refine asA (h := ?_) | refine quA (h := ?_) | refine wnA (h := ?_) | refine waA (h := ?_) | refine caA (hc := (hih _)) (h := ?_)
       | (with_reducible refine isC ?_); first | refine ctA (h := ?_) | refine cfA (h := ?_) | refine cdA (h1 := fun _ => ?_) (h0 := fun _ => ?_) | refine cbA (h1 := fun _ => ?_) (h0 := fun _ => ?_)
       | with_reducible first | refine Ev.seq ?_ | refine Ev.ops ?_ | refine NxE ?_ | refine BxN ?_ | refine BxX ?_ | refine NxX ?_ | refine NxR ?_ | refine BxR ?_ | refine Ev.block ?_ | refine Ev.skip ?_ | refine Ev.exit ?_ | refine Ev.ret ?_ | refine EvOps.nil ?_ | refine EvPlan.nil ?_
       | (with_reducible refine BxO ?_ ?_; · decide)
       )
      refine lfA (rl := [.tmp 4]) rfl (hv := by
      simp only [packV, strip, stripAgg, stripCell, List.map_cons, List.map_nil]
      first | done | rfl) (hp := rfl)
    have k4 : decide (k = 4) = false := by simp [h4]
    have hcmp : k = 3 → ∀ st, FnS cx 36 [E.c (.mk k f o v m z ps)] st (.str (isT f o v m)) st := fun h3 st => by
      have hn3 := node_is hnode h3
      have hv2 : v = ((v.toNat : Nat) : Int) := by omega
      have hm2 : m = ((m.toNat : Nat) : Int) := by omega
      have g1 := hexT_le (v := v) (by omega)
      have g2 := hexT_le (v := m) (by omega)
      have g3 := nm_len f
      exact comparisonS k f o v m z ps (nmT f) (K.hexT v.toNat) (K.hexT m.toNat) (allN f) hn3.2.2.1 hn3.2.2.2 (by omega) (by omega) (by omega) (nameS f hn3.1 hn3.2.1)
        (fun st => by have := hexS v.toNat (by omega) st; rw [← hv2] at this; exact this) (fun st => by have := hexS m.toNat (by omega) st; rw [← hm2] at this; exact this) (allS f hn3.1 hn3.2.1) st
    rw [E.c] at hcmp
    have t1 : k = 1 → txE (.mk k f o v m z ps) = [49] := fun h => by rw [txE, if_pos h]
    have t2 : k = 2 → txE (.mk k f o v m z ps) = [48] := fun h => by rw [txE, if_neg (by omega), if_pos h]
    have t3 : k = 3 → txE (.mk k f o v m z ps) = isT f o v m := fun h => by rw [txE, if_neg (by omega), if_neg (by omega), if_pos h]
    have ex := And.intro @c2 (And.intro @c10 (And.intro @c11 (And.intro @c12 (And.intro @hcl (And.intro @hso (And.intro @hpB (And.intro @hpE (And.intro @zvR (And.intro @hlt2 @k4)))))))))
    repeat' (first
     | (with_reducible refine isO ?_); first | refine mvA (h := ?_) | refine asA (h := ?_) | refine quA (h := ?_) | refine wnA (h := ?_) | refine waA (h := ?_) | refine caA (hc := (hcmp (by omega) _)) (h := ?_)
     | (with_reducible refine isC ?_); first | refine ctA (h := ?_) | refine cfA (h := ?_) | refine cdA (h1 := fun _ => ?_) (h0 := fun _ => ?_) | refine cbA (h1 := fun _ => ?_) (h0 := fun _ => ?_)
     | with_reducible first | refine Ev.seq ?_ | refine Ev.ops ?_ | refine NxE ?_ | refine BxN ?_ | refine BxX ?_ | refine NxX ?_ | refine NxR ?_ | refine BxR ?_ | refine Ev.block ?_ | refine Ev.skip ?_ | refine Ev.exit ?_ | refine Ev.ret ?_ | refine EvOps.nil ?_ | refine EvPlan.nil ?_
     | (with_reducible refine BxO ?_ ?_; · decide)
     )
    · rw [t1 (by omega)]
      refine lfA (rl := [.tmp 4]) rfl (hv := by
      simp only [packV, strip, stripAgg, stripCell, List.map_cons, List.map_nil]
      first | done | rfl) (hp := rfl)
    · rw [t2 (by omega)]
      refine lfA (rl := [.tmp 4]) rfl (hv := by
      simp only [packV, strip, stripAgg, stripCell, List.map_cons, List.map_nil]
      first | done | rfl) (hp := rfl)
    · rw [t3 (by omega)]
      refine lfA (rl := [.tmp 4]) rfl (hv := by
      simp only [packV, strip, stripAgg, stripCell, List.map_cons, List.map_nil]
      first | done | rfl) (hp := rfl)
    have h56 : k = 5 ∨ k = 6 := by unfold nodeP at hnode; omega
    have htx : txE (.mk k f o v m z ps) = Lib.join (ps.map (brT [5, 6])) (if k = 5 then [32, 38, 38, 32] else [32, 124, 124, 32]) := by
      rw [txE, if_neg (by omega), if_neg (by omega), if_neg (by omega), if_neg (by omega), txEs_map]
    rw [htx] at htl ⊢
    clear htx hcmp t1 t2 t3
    refine loopT (fun r t st => ∃ (i : Nat) (H : List (Nat × Ob)) (n : Nat) (T : Tip), r = ps.length - i ∧ i ≤ ps.length ∧ okTip1 1 H n T ∧ 1 ≤ n ∧ hget H 0 = some (.cells [.int .i64 k, .int .i64 f, .int .i64 o, .int .u64 v, .int .u64 m, .sl (tipB z) (E.cs ps)]) ∧ tget t 2 = .ptr 0 0 ∧ tget t 7 = .sl T (((ps.take i).map (brT [5, 6])).map V.str) ∧ tget t 45 = .sl (tipB z) (E.cs ps) ∧ tget t 46 = .int .i64 (ps.length : Nat) ∧ tget t 47 = .int .i64 (i : Nat) ∧ st = ⟨H, n⟩) (n := ps.length) ?_ ?_
    · refine ⟨0, _, _, .full, by omega, by omega, .inl rfl, ?_, ?_, ?_, ?_, ?_, ?_, ?_, rfl⟩
      · decide
      · rfl
      · simp only [↓evP, ↓tgP, ↓reduceIte, Nat.reduceEqDiff, reduceCtorEq, List.map_cons, List.map_nil, List.nil_append, List.append_nil, List.toList_toArray, c2]
      · simp only [↓evP, ↓tgP, ↓reduceIte, Nat.reduceEqDiff, reduceCtorEq, List.map_cons, List.map_nil, List.nil_append, List.append_nil, List.toList_toArray, c2]; rfl
      · simp only [↓evP, ↓tgP, ↓reduceIte, Nat.reduceEqDiff, reduceCtorEq, List.map_cons, List.map_nil, List.nil_append, List.append_nil, List.toList_toArray, c2]
      · simp only [↓evP, ↓tgP, ↓reduceIte, Nat.reduceEqDiff, reduceCtorEq, List.map_cons, List.map_nil, List.nil_append, List.append_nil, List.toList_toArray, c2]
      · simp only [↓evP, ↓tgP, ↓reduceIte, Nat.reduceEqDiff, reduceCtorEq, List.map_cons, List.map_nil, List.nil_append, List.append_nil, List.toList_toArray, c2]; rfl
    clear c2 c10 c11 c12
    rintro r t st ⟨i, H, n, T, hr, hi, hT, hn, h0', c2, c7, c45, c46, c47, rfl⟩
    rcases Nat.lt_or_ge i ps.length with hlt | hge
    · have hlt3 : decide ((i : Int) < (ps.length : Int)) = true := by simp; omega
      obtain ⟨qk, qf, qo, qv, qm, qz, qs, hq, hqc, hqm⟩ := part_at hlt
      have hih : ∀ st, FnS cx 22 [E.c (.mk qk qf qo qv qm qz qs), .sl .full [.int .i64 5, .int .i64 6]] st (.str (brT [5, 6] (.mk qk qf qo qv qm qz qs))) st := fun st => ih _ hqm [5, 6] st (by decide)
      have htk := tx_take hq
      rw [E.c] at hih
      generalize brT [5, 6] (.mk qk qf qo qv qm qz qs) = X at hih htk
      have hT2 : okTip1 1 ((n, .cells [.int .i64 qk, .int .i64 qf, .int .i64 qo, .int .u64 qv, .int .u64 qm, .sl (tipB qz) (E.cs qs)]) :: H) (n + 1) T := by
        rcases hT with rfl | ⟨b, rfl, hb, hb3, hbn⟩
        · exact .inl rfl
        · exact .inr ⟨b, rfl, by rw [← hb]; exact hpE.2.1 _ _ _ _ (by omega), hb3, by omega⟩
      have hap : ∀ u, appendV cx _ 74 (.sl T (((ps.take i).map (brT [5, 6])).map V.str)) (.sl u [.str X]) = _ := fun u => appS (u := u) hT2 (by rw [tx_take_len hi]; omega)
      have hd0 := (del1_get (c := 0) hT2 (by omega)).trans ((hpE.2.1 _ _ _ _ (by omega)).trans h0')
      have hbx := bsS X
      rw [← htk] at hap
      generalize delT T _ = H2 at hap hd0
      have ex := And.intro @c2 (And.intro @c7 (And.intro @c45 (And.intro @c46 (And.intro @c47 (And.intro @h0' (And.intro @hcl (And.intro @hso (And.intro @hqc (And.intro @hpB (And.intro @hpE (And.intro @zvR (And.intro @hlt3 (And.intro @bs73 (And.intro @hbx (And.intro @hap @hd0)))))))))))))))
      repeat' (first
       | (with_reducible refine isO ?_); first | refine mvA (h := ?_) | refine asA (h := ?_) | refine quA (h := ?_) | refine wnA (h := ?_) | refine waA (h := ?_) | refine caA (hc := (hih _)) (h := ?_)
       | (with_reducible refine isC ?_); first | refine ctA (h := ?_) | refine cfA (h := ?_) | refine cdA (h1 := fun _ => ?_) (h0 := fun _ => ?_) | refine cbA (h1 := fun _ => ?_) (h0 := fun _ => ?_)
       | with_reducible first | refine Ev.seq ?_ | refine Ev.ops ?_ | refine NxE ?_ | refine BxN ?_ | refine BxX ?_ | refine NxX ?_ | refine NxR ?_ | refine BxR ?_ | refine Ev.block ?_ | refine Ev.skip ?_ | refine Ev.exit ?_ | refine Ev.ret ?_ | refine EvOps.nil ?_ | refine EvPlan.nil ?_
       | (with_reducible refine BxO ?_ ?_; · decide)
       )
      refine ⟨ps.length - (i + 1), by omega, rfl, i + 1, _, _, .own (n + 1), rfl, by omega, ?_, by omega, ?_, ?_, ?_, ?_, ?_, ?_, rfl⟩
      · refine .inr ⟨n + 1, rfl, ?_, by omega, by omega⟩
        simp (disch := omega) only [hpE]
      · simp (disch := omega) only [hpE, hd0]
      · simp only [↓evP, ↓tgP, ↓reduceIte, Nat.reduceEqDiff, reduceCtorEq, List.map_cons, List.map_nil, List.nil_append, List.append_nil, List.toList_toArray, c2]
      · simp only [↓evP, ↓tgP, ↓reduceIte, Nat.reduceEqDiff, reduceCtorEq, List.map_cons, List.map_nil, List.nil_append, List.append_nil, List.toList_toArray, c7]
      · simp only [↓evP, ↓tgP, ↓reduceIte, Nat.reduceEqDiff, reduceCtorEq, List.map_cons, List.map_nil, List.nil_append, List.append_nil, List.toList_toArray, c45]
      · simp only [↓evP, ↓tgP, ↓reduceIte, Nat.reduceEqDiff, reduceCtorEq, List.map_cons, List.map_nil, List.nil_append, List.append_nil, List.toList_toArray, c46]
      · simp only [↓evP, ↓tgP, ↓reduceIte, Nat.reduceEqDiff, reduceCtorEq, List.map_cons, List.map_nil, List.nil_append, List.append_nil, List.toList_toArray, c47]; rfl
    · obtain rfl : i = ps.length := by omega
      have hlt3 : decide ((ps.length : Int) < (ps.length : Int)) = false := by simp
      rw [List.take_length] at c7
      have hml : (ps.map (brT [5, 6])).length ≤ 140737488355328 := by rw [List.length_map]; omega
      rcases h56 with rfl | rfl
      · rw [if_pos rfl] at htl ⊢
        have hj := joinS (tip := T) (l := ps.map (brT [5, 6])) (sep := [32, 38, 38, 32]) (by omega) hml
        generalize Lib.join (ps.map (brT [5, 6])) [32, 38, 38, 32] = X at hj htl
        have ex := And.intro @c2 (And.intro @c7 (And.intro @c45 (And.intro @c46 (And.intro @c47 (And.intro @h0' (And.intro @hcl (And.intro @hso (And.intro @hpB (And.intro @hpE (And.intro @zvR @hlt3))))))))))
        repeat' (first
         | (with_reducible refine isO ?_); first | refine mvA (h := ?_) | refine asA (h := ?_) | refine quA (h := ?_) | refine wnA (h := ?_) | refine waA (h := ?_) | refine caA (hc := (hj _)) (h := ?_)
         | (with_reducible refine isC ?_); first | refine ctA (h := ?_) | refine cfA (h := ?_) | refine cdA (h1 := fun _ => ?_) (h0 := fun _ => ?_) | refine cbA (h1 := fun _ => ?_) (h0 := fun _ => ?_)
         | with_reducible first | refine Ev.seq ?_ | refine Ev.ops ?_ | refine NxE ?_ | refine BxN ?_ | refine BxX ?_ | refine NxX ?_ | refine NxR ?_ | refine BxR ?_ | refine Ev.block ?_ | refine Ev.skip ?_ | refine Ev.exit ?_ | refine Ev.ret ?_ | refine EvOps.nil ?_ | refine EvPlan.nil ?_
         | (with_reducible refine BxO ?_ ?_; · decide)
         )
        refine lfA (rl := [.tmp 4]) rfl (hv := by
      simp only [packV, strip, stripAgg, stripCell, List.map_cons, List.map_nil]
      first | done | rfl) (hp := rfl)
      · rw [if_neg (by decide)] at htl ⊢
        have hj := joinS (tip := T) (l := ps.map (brT [5, 6])) (sep := [32, 124, 124, 32]) (by omega) hml
        generalize Lib.join (ps.map (brT [5, 6])) [32, 124, 124, 32] = X at hj htl
        have ex := And.intro @c2 (And.intro @c7 (And.intro @c45 (And.intro @c46 (And.intro @c47 (And.intro @h0' (And.intro @hcl (And.intro @hso (And.intro @hpB (And.intro @hpE (And.intro @zvR @hlt3))))))))))
        repeat' (first
         | (with_reducible refine isO ?_); first | refine mvA (h := ?_) | refine asA (h := ?_) | refine quA (h := ?_) | refine wnA (h := ?_) | refine waA (h := ?_) | refine caA (hc := (hj _)) (h := ?_)
         | (with_reducible refine isC ?_); first | refine ctA (h := ?_) | refine cfA (h := ?_) | refine cdA (h1 := fun _ => ?_) (h0 := fun _ => ?_) | refine cbA (h1 := fun _ => ?_) (h0 := fun _ => ?_)
         | with_reducible first | refine Ev.seq ?_ | refine Ev.ops ?_ | refine NxE ?_ | refine BxN ?_ | refine BxX ?_ | refine NxX ?_ | refine NxR ?_ | refine BxR ?_ | refine Ev.block ?_ | refine Ev.skip ?_ | refine Ev.exit ?_ | refine Ev.ret ?_ | refine EvOps.nil ?_ | refine EvPlan.nil ?_
         | (with_reducible refine BxO ?_ ?_; · decide)
         )
        refine lfA (rl := [.tmp 4]) rfl (hv := by
      simp only [packV, strip, stripAgg, stripCell, List.map_cons, List.map_nil]
      first | done | rfl) (hp := rfl)
theorem textS : ∀ e : E, e.Ok → ∀ d, okE d e = true → ndE e ≤ 1099511627776 → ∀ bs st, bs.length ≤ 1000 → FnS cx 22 [e.c, .sl .full (ints bs)] st (.str (brT bs e)) st := by
  refine E.ind fun k f o v m z ps ih => ?_
  intro hok d hd hnd
  have hokp : ∀ p ∈ ps, p.Ok := by cases hok; assumption
  have hdp := (okE_parts hd).2.2
  have ih2 : ∀ q ∈ ps, ∀ bs st, bs.length ≤ 1000 → FnS cx 22 [q.c, .sl .full (ints bs)] st (.str (brT bs q)) st := fun q hq => ih q hq (hokp q hq) _ (hdp q hq) (by have := nd_mem hq; rw [ndE] at hnd; omega)
  have h0 : ∀ st, FnS cx 22 [E.c (.mk k f o v m z ps), .sl .full []] st (.str (txE (.mk k f o v m z ps))) st := fun st => by
    have := textG k f o v m z ps hok d hd hnd ih2 [] (by simp) (fun h => absurd rfl h) st
    rw [br_nil] at this
    exact this
  exact fun bs st hb => textG k f o v m z ps hok d hd hnd ih2 bs hb (fun _ => h0) st
end Go.Proofs.YtklcmgodhpediaaGreatDoor.P
