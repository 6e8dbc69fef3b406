/- Expressions in new memory. -/
import Derived.Test.YtklcmgodhpediaaGreatDoorExS5
set_option linter.unusedSimpArgs false
set_option linter.unusedVariables false
set_option maxRecDepth 100000
namespace Go.Proofs.YtklcmgodhpediaaGreatDoor
open Go Go.Vm Go.Proofs

def E.z : E → Bool | .mk _ _ _ _ _ z _ => z
theorem strip_c {e : E} (h : e.z = false) : stripAgg e.c = e.c := by
  cases e with
  | mk k f o v m z ps => cases z with
    | true => cases h
    | false => rfl
theorem bs23 {e : E} (h : e.z = false) : buildSliceV cx 23 1 [(0, e.c)] = some (.sl .full [e.c]) := by
  cases e with
  | mk k f o v m z ps => cases z with
    | true => cases h
    | false => simp only [E.c]; rfl
theorem hget_hdel_ne : ∀ {H : List (Nat × Ob)} {b c : Nat}, b ≠ c → hget (hdel H b) c = hget H c
  | [], _, _, _ => rfl
  | (i, o) :: r, b, c, h => by
    simp only [hdel]
    split
    · rename_i hi
      have : i = b := by simpa using hi
      have hic : (i == c) = false := by simp; omega
      simp only [hget, hic, Bool.false_eq_true, if_false]
    · simp only [hget, hget_hdel_ne h]
def okTip (m : Nat) (H : List (Nat × Ob)) (n : Nat) (T : Tip) : Prop := T = .full ∨ ∃ b, T = .own b ∧ hget H b = some (.tip 6) ∧ m ≤ b ∧ b < n
def delT : Tip → List (Nat × Ob) → List (Nat × Ob)
  | .own b, H => hdel H b
  | _, H => H
theorem delT_get {H : List (Nat × Ob)} {n : Nat} {T : Tip} {c m : Nat} (h : okTip m H n T) (hc : c < m) : hget (delT T H) c = hget H c := by
  rcases h with rfl | ⟨b, rfl, _, h3, _⟩
  · rfl
  · exact hget_hdel_ne (by omega)
theorem appT {H : List (Nat × Ob)} {n : Nat} {T : Tip} {xs : List V} {u : Tip} {e : E} {m : Nat} (hT : okTip m H n T) (hz : e.z = false) (hx : szOk 6 xs = true) (hl : (xs.length + 1) * 64 ≤ 2 ^ 47) :
    appendV cx ⟨H, n⟩ 23 (.sl T xs) (.sl u [e.c]) = some (.sl (.own n) (xs ++ [e.c]), ⟨(n, .tip 6) :: delT T H, n + 1⟩) := by
  have hs := strip_c hz
  cases e with
  | mk k f o v m z ps =>
    have e1 : ∀ cs, szOk 6 [V.agg cs] = (cs.length == 6) := fun cs => rfl
    have e2 : szOf cx 25 = some 6 := by decide +kernel
    have e3 : zeroOk cx 25 6 = true := by decide +kernel
    have e4 : byOf cx 25 = 64 := by decide +kernel
    have e5 : cx.mutT 23 = false := rfl
    have hl2 : xs.length + 1 ≤ 2 ^ 47 := by omega
    rcases hT with rfl | ⟨b, rfl, hb, _, _⟩
    · simp only [appendV, addedV, tyE, E.c, e1, e2, e3, e4, e5, hx, List.length_cons, List.length_nil, List.isEmpty_cons, Bool.false_eq_true, if_false, List.map_cons, List.map_nil, delT, Nat.zero_add, Nat.zero_lt_succ, true_and, beq_self_eq_true, if_true, and_self, hl, hl2]
      simp only [E.c] at hs
      rw [hs]
    · simp only [appendV, addedV, tyE, E.c, e1, e2, e3, e4, e5, hx, hb, List.length_cons, List.length_nil, List.isEmpty_cons, Bool.false_eq_true, if_false, List.map_cons, List.map_nil, delT, Nat.zero_add, Nat.zero_lt_succ, true_and, beq_self_eq_true, if_true, and_self, hl, hl2]
      simp only [E.c] at hs
      rw [hs]
mutual
def copyE : E → E
  | .mk k f o v m _ ps => .mk k f o v m false (copyEs ps)
def copyEs : List E → List E
  | [] => []
  | e :: r => copyE e :: copyEs r
end
theorem copyEs_map : ∀ ps : List E, copyEs ps = ps.map copyE
  | [] => rfl
  | e :: r => by rw [copyEs, List.map_cons, copyEs_map r]
theorem copy_z (e : E) : (copyE e).z = false := by cases e; rfl
theorem cs_take (g : E → E) {ps : List E} {i : Nat} {q : E} (h : ps[i]? = some q) : E.cs ((ps.take (i + 1)).map g) = E.cs ((ps.take i).map g) ++ [(g q).c] := by
  rw [List.take_add_one, h]
  simp [E.cs_map]
theorem cs_take_len (g : E → E) {ps : List E} {i : Nat} (h : i ≤ ps.length) : (E.cs ((ps.take i).map g)).length = i := by rw [cs_len]; simp; omega
theorem bool_mul {n i : Nat} (h : n * 64 ≤ 2 ^ 47) (hi : i < n) : (i + 1) * 64 ≤ 2 ^ 47 := by omega

end Go.Proofs.YtklcmgodhpediaaGreatDoor
/- Expressions without Not: the program. -/
namespace Go.Proofs.YtklcmgodhpediaaGreatDoor
open Go Go.Vm Go.Proofs

def turnK (k : Int) : Int := if k = 1 then 2 else if k = 2 then 1 else if k = 5 then 6 else if k = 6 then 5 else k
def turnO (o : Int) : Int := if o = 1 then 2 else if o = 2 then 1 else if o = 3 then 6 else if o = 6 then 3 else if o = 4 then 5 else if o = 5 then 4 else o
mutual
def negE : E → Bool → E
  | .mk k f o v m _ ps, d => if k = 4 then firstN ps (!d) else .mk (if d then turnK k else k) f (if d then turnO o else o) v m false (negEs ps d)
def negEs : List E → Bool → List E
  | [], _ => []
  | e :: r, d => negE e d :: negEs r d
def firstN : List E → Bool → E
  | [], _ => .mk 0 0 0 0 0 false []
  | e :: _, d => negE e d
end
theorem negEs_map : ∀ (ps : List E) (d : Bool), negEs ps d = ps.map (negE · d)
  | [], _ => rfl
  | e :: r, d => by rw [negEs, List.map_cons, negEs_map r]
theorem neg_z : ∀ (e : E) (d : Bool), (negE e d).z = false := E.ind fun k f o v m z ps ih => by
  intro d
  rw [negE]
  split
  · cases ps with
    | nil => rfl
    | cons p r => rw [firstN]; exact ih p (List.mem_cons_self) _
  · rfl
theorem firstN_at {ps : List E} {q : E} {d : Bool} (h : ps[0]? = some q) : firstN ps d = negE q d := by
  cases ps with
  | nil => cases h
  | cons p r => simp at h; subst h; rfl
theorem c_six (e : E) : ∃ a b c d x y, e.c = .agg [a, b, c, d, x, y] := by
  cases e; exact ⟨_, _, _, _, _, _, by rw [E.c]⟩
theorem okE_parts {d k f o v m : Int} {z : Bool} {ps : List E} (h : okE d (.mk k f o v m z ps) = true) : d ≤ 64 ∧ nodeP k f o v m ps.length ∧ ∀ q ∈ ps, okE (d + 1) q = true := by
  rw [okE, Bool.and_eq_true, Bool.and_eq_true, decide_eq_true_eq, decide_eq_true_eq] at h
  refine ⟨h.1, h.2.2, ?_⟩
  have : ∀ l : List E, okEs (d + 1) l = true → ∀ q ∈ l, okE (d + 1) q = true := by
    intro l
    induction l with
    | nil => intro _ q hq; cases hq
    | cons a l ih =>
      intro h q hq
      rw [okEs, Bool.and_eq_true] at h
      cases hq with
      | head => exact h.1
      | tail _ hq => exact ih h.2 q hq
  exact this ps h.2.1
theorem mapE : (∀ (H : List (Nat × Ob)) (n : Nat) (es : List (V × V)) (k v : Int), mapUpdH cx ((n, .map es) :: H) 92 (.map n) (.int .i64 k) (.int .i64 v) = (setMap (.int .i64 k) (.int .i64 v) es).map fun es' => (n, .map es') :: H) ∧
    (∀ k v, setMap k v [] = some [(k, v)]) ∧ (∀ (a b : Int) (v w : V) (r : List (V × V)), setMap (.int .i64 a) v ((.int .i64 b, w) :: r) = if a = b then some ((.int .i64 a, v) :: r) else (setMap (.int .i64 a) v r).map ((.int .i64 b, w) :: ·)) ∧
    (∀ (H : List (Nat × Ob)) (b : Nat) (k : Int), lookupV cx H 92 (.map b) (.int .i64 k) false = (match ((hget H b).bind obMap).bind (findV (.int .i64 k)) with | some (some v) => some v | some none => some (.int .i64 0) | none => none)) ∧
    (∀ (a b : Int) (v : V) (r : List (V × V)), findV (.int .i64 a) ((.int .i64 b, v) :: r) = if a = b then some (some v) else findV (.int .i64 a) r) ∧ (∀ es, obMap (.map es) = some es) := by
  have hz : zeroV cx 3 = some (.int .i64 0) := by rfl
  refine ⟨fun H n es k v => ?_, fun _ _ => rfl, fun a b v w r => ?_, fun H b k => ?_, fun a b v r => ?_, fun _ => rfl⟩
  · simp only [mapUpdH, tyE, keyT, hgetM, hget, beq_self_eq_true, if_true, Option.bind_some, obMap, hset]
  · simp only [setMap, eqCell]
    by_cases h : a = b
    · subst h; simp
    · have : (a == b) = false := by simpa using h
      simp [this, h]
  · simp only [lookupV, tyE, keyT, hz, hgetM, if_true]
    cases (hget H b).bind obMap with
    | none => rfl
    | some es =>
      simp only [Option.bind_some]
      cases findV (.int .i64 k) es with
      | none => rfl
      | some o => cases o <;> rfl
  · simp only [findV, eqCell]
    by_cases h : a = b
    · subst h; simp
    · have : (a == b) = false := by simpa using h
      simp [this, h]
theorem node_kinds {k f o v m : Int} {n : Nat} (h : nodeP k f o v m n) (h4 : k ≠ 4) : (k = 1 ∧ o = 0) ∨ (k = 2 ∧ o = 0) ∨ (k = 5 ∧ o = 0) ∨ (k = 6 ∧ o = 0) ∨ (k = 3 ∧ (o = 1 ∨ o = 2 ∨ o = 3 ∨ o = 4 ∨ o = 5 ∨ o = 6)) := by
  unfold nodeP at h; omega

set_option maxHeartbeats 16000000 in
theorem plainS : ∀ e : E, e.Ok → ∀ d : Int, okE d e = true → ∀ b st, FnS cx 31 [e.c, .bool b] st (negE e b).c st := by
  refine E.ind fun k f o v m z ps ih => ?_
  intro hok d hd b st
  obtain ⟨hk, hf, ho, hv, hm, hl, hpo⟩ := hok
  obtain ⟨hd64, hnode, hparts⟩ := okE_parts hd
  have hu := unown_c (.mk k f o v m z ps)
  have hp := E.pure (.mk k f o v m z ps)
  have hcl := cs_len ps
  have hso := szOk_cs ps
  refine goP Tryz.func31 rfl rfl rfl rfl ?_ ?_
  · simp only [List.map_cons, List.map_nil, hu, unL, pureVs, pureV, hp, Bool.and_self]
  intro t ht
  have a0 : tget t 0 = E.c (.mk k f o v m z ps) := ht 0 _ (by simp only [List.map_cons, hu]; rfl)
  have a1 : tget t 1 = .bool b := ht 1 _ rfl
  clear ht
  rw [E.c] at a0
  by_cases h4 : k = 4
  · have hl1 : ps.length = 1 := by unfold nodeP at hnode; omega
    obtain ⟨qk, qf, qo, qv, qm, qz, qs, hq, hqc, hqm⟩ := part_at (i := 0) (ps := ps) (by omega)
    have hih := ih _ hqm (hpo _ hqm) (d + 1) (hparts _ hqm) (!b)
    have hfin : (negE (.mk k f o v m z ps) b).c = (negE (.mk qk qf qo qv qm qz qs) (!b)).c := by rw [negE, if_pos h4, firstN_at hq]
    rw [hfin]
    have hsy := strip_c (neg_z (.mk qk qf qo qv qm qz qs) (!b))
    have hpy := E.pure (negE (.mk qk qf qo qv qm qz qs) (!b))
    obtain ⟨y0, y1, y2, y3, y4, y5, hy⟩ := c_six (negE (.mk qk qf qo qv qm qz qs) (!b))
    rw [hy] at hih hsy hpy ⊢
    rw [E.c] at hih
    have ex := And.intro @a0 (And.intro @a1 (And.intro @hcl (And.intro @hpB (And.intro @hpE (And.intro @hso (And.intro @hqc @zvE))))))
    repeat' (first
     | (with_reducible refine isO ?_); first | refine mvA (h := ?_) | refine asA (h := ?_) | refine quA (h := ?_) | refine wnA (h := ?_) | refine caA (hc := hih _) (h := ?_)
     | (with_reducible refine isP ?_); first | refine dqA (h := ?_) | refine dcA (i := 4) (l := [1]) (hc := hih _) (h := ?_) | refine dwA (i := 6) (l := []) (h := ?_) | refine dnA (i := 8) (l := []) (h := ?_) | refine dnA (i := 9) (l := [7, 6]) (h := ?_) | refine dnA (i := 11) (l := []) (h := ?_)
     | (with_reducible refine isC ?_); first | refine ctA (h := ?_) | refine cfA (h := ?_) | refine cdA (h1 := fun _ => ?_) (h0 := fun _ => ?_) | refine cbA (h1 := fun _ => ?_) (h0 := fun _ => ?_)
     | (with_reducible refine isR ?_); first
       | refine Ev.drawn (by decide +kernel) (l := [0, 1, 2, 3, 4, 5, 6, 7, 8]) (by decide +kernel) ?_
       | refine Ev.drawn (by decide +kernel) (l := [0, 1, 2, 3, 4, 5, 6, 7, 8, 9, 10, 11]) (by decide +kernel) ?_
     | with_reducible first | refine Ev.seq ?_ | refine Ev.ops ?_ | refine NxE ?_ | refine BxN ?_ | refine BxX ?_ | refine NxX ?_ | refine NxR ?_ | refine BxR ?_ | refine Ev.block ?_ | refine Ev.skip ?_ | refine Ev.exit ?_ | refine Ev.ret ?_ | refine EvOps.nil ?_ | refine EvPlan.nil ?_
     | (with_reducible refine BxO ?_ ?_; · decide)
     )
    all_goals refine lfA (rl := [.cell 4 25]) rfl (hv := by
      simp only [packV, strip, stripAgg, stripCell, List.map_cons, List.map_nil]
      exact hsy) (hp := hpy)
  have ex := And.intro @a0 (And.intro @a1 (And.intro @hcl (And.intro @hpB (And.intro @hpE (And.intro @hso @zvE)))))
  repeat' (first
   | (with_reducible refine isO ?_); first | refine mvA (h := ?_) | refine asA (h := ?_) | refine quA (h := ?_) | refine wnA (h := ?_)
   | (with_reducible refine isP ?_); first | refine dqA (h := ?_) | refine dwA (i := 6) (l := []) (h := ?_) | refine dnA (i := 8) (l := []) (h := ?_) | refine dnA (i := 9) (l := [7, 6]) (h := ?_) | refine dnA (i := 11) (l := []) (h := ?_)
   | (with_reducible refine isC ?_); first | refine ctA (h := ?_) | refine cfA (h := ?_) | refine cdA (h1 := fun _ => ?_) (h0 := fun _ => ?_) | refine cbA (h1 := fun _ => ?_) (h0 := fun _ => ?_)
   | (with_reducible refine isR ?_); first
     | refine Ev.drawn (by decide +kernel) (l := [0, 1, 2, 3, 4, 5, 6, 7, 8]) (by decide +kernel) ?_
     | refine Ev.drawn (by decide +kernel) (l := [0, 1, 2, 3, 4, 5, 6, 7, 8, 9, 10, 11]) (by decide +kernel) ?_
   | with_reducible first | refine Ev.seq ?_ | refine Ev.ops ?_ | refine NxE ?_ | refine BxN ?_ | refine BxX ?_ | refine NxX ?_ | refine NxR ?_ | refine BxR ?_ | refine Ev.block ?_ | refine Ev.skip ?_ | refine Ev.exit ?_ | refine Ev.ret ?_ | refine EvOps.nil ?_ | refine EvPlan.nil ?_
   | (with_reducible refine BxO ?_ ?_; · decide)
   )
  refine loopT (fun r t st => ∃ (i : Nat) (H : List (Nat × Ob)) (n : Nat) (T : Tip), r = ps.length - i ∧ i ≤ ps.length ∧ okTip 3 H n T ∧ tget t 1 = .bool b ∧ tget t 2 = .ptr 0 0 ∧ tget t 4 = .ptr 1 0 ∧ tget t 5 = .ptr 2 0 ∧ tget t 23 = .sl (tipB z) (E.cs ps) ∧ tget t 24 = .int .i64 (ps.length : Nat) ∧ tget t 25 = .int .i64 i ∧ st = ⟨H, n⟩ ∧ hget H 0 = some (.cells [.int .i64 k, .int .i64 f, .int .i64 o, .int .u64 v, .int .u64 m, .sl (tipB z) (E.cs ps)]) ∧ (∃ w0 w1 w2 w3 w4 w5, hget H 1 = some (.cells [w0, w1, w2, w3, w4, w5])) ∧ hget H 2 = some (.cells [.int .i64 k, .int .i64 f, .int .i64 o, .int .u64 v, .int .u64 m, .sl T (E.cs ((ps.take i).map (negE · b)))]) ∧ 3 ≤ n) (n := ps.length) ?_ ?_
  · refine ⟨0, _, _, .full, by omega, by omega, .inl rfl, ?_, ?_, ?_, ?_, ?_, ?_, ?_, rfl, rfl, ⟨_, _, _, _, _, _, rfl⟩, rfl, ?_⟩
    · simp only [↓evP, ↓tgP, ↓reduceIte, Nat.reduceEqDiff, reduceCtorEq, List.map_cons, List.map_nil, List.nil_append, List.append_nil, List.toList_toArray, a1]
    · simp only [↓evP, ↓tgP, ↓reduceIte, Nat.reduceEqDiff, reduceCtorEq, List.map_cons, List.map_nil, List.nil_append, List.append_nil, List.toList_toArray, a0]
    · simp only [↓evP, ↓tgP, ↓reduceIte, Nat.reduceEqDiff, reduceCtorEq, List.map_cons, List.map_nil, List.nil_append, List.append_nil, List.toList_toArray, a0]
    · simp only [↓evP, ↓tgP, ↓reduceIte, Nat.reduceEqDiff, reduceCtorEq, List.map_cons, List.map_nil, List.nil_append, List.append_nil, List.toList_toArray, a0]
    · simp only [↓evP, ↓tgP, ↓reduceIte, Nat.reduceEqDiff, reduceCtorEq, List.map_cons, List.map_nil, List.nil_append, List.append_nil, List.toList_toArray, a0]
    · simp only [↓evP, ↓tgP, ↓reduceIte, Nat.reduceEqDiff, reduceCtorEq, List.map_cons, List.map_nil, List.nil_append, List.append_nil, List.toList_toArray, a0]
    · simp only [↓evP, ↓tgP, ↓reduceIte, Nat.reduceEqDiff, reduceCtorEq, List.map_cons, List.map_nil, List.nil_append, List.append_nil, List.toList_toArray, a0]; rfl
    · decide
  rintro r t st ⟨i, H, n, T, rfl, hi, hT, c1, c2, c4, c5, c23, c24, c25, rfl, h0, ⟨w0, w1, w2, w3, w4, w5, h1⟩, h2, hn⟩
  rcases Nat.lt_or_ge i ps.length with hlt | hge
  · obtain ⟨qk, qf, qo, qv, qm, qz, qs, hq, hqc, hqm⟩ := part_at hlt
    have hih := ih _ hqm (hpo _ hqm) (d + 1) (hparts _ hqm) b
    have hbs := bs23 (neg_z (.mk qk qf qo qv qm qz qs) b)
    generalize hy : (negE (.mk qk qf qo qv qm qz qs) b).c = y at hih hbs
    rw [E.c] at hih
    have hT2 : okTip 3 ((n, .cells [.int .i64 qk, .int .i64 qf, .int .i64 qo, .int .u64 qv, .int .u64 qm, .sl (tipB qz) (E.cs qs)]) :: H) (n + 1) T := by
      rcases hT with rfl | ⟨b, rfl, hb, hb3, hbn⟩
      · exact .inl rfl
      · exact .inr ⟨b, rfl, by rw [← hb]; exact hpE.2.1 _ _ _ _ (by omega), hb3, by omega⟩
    have hap : ∀ u, appendV cx _ 23 (.sl T (E.cs ((ps.take i).map (negE · b)))) (.sl u [y]) = _ := fun u => hy ▸ appT (u := u) hT2 (neg_z _ _) (szOk_cs _) (by rw [cs_take_len _ hi]; exact bool_mul hl hlt)
    have hd0 := (delT_get (c := 0) hT2 (by omega)).trans ((hpE.2.1 _ _ _ _ (by omega)).trans h0)
    have hd1 := (delT_get (c := 1) hT2 (by omega)).trans ((hpE.2.1 _ _ _ _ (by omega)).trans h1)
    have hd2 := (delT_get (c := 2) hT2 (by omega)).trans ((hpE.2.1 _ _ _ _ (by omega)).trans h2)
    generalize delT T _ = H2 at hap hd0 hd1 hd2
    have ex := And.intro @c1 (And.intro @c2 (And.intro @c4 (And.intro @c5 (And.intro @c23 (And.intro @c24 (And.intro @c25 (And.intro @h0 (And.intro @h1 (And.intro @h2 (And.intro @hcl (And.intro @hso (And.intro @hqc (And.intro @hpB (And.intro @hpE (And.intro @zvE (And.intro @hbs (And.intro @hap (And.intro @hd0 (And.intro @hd1 @hd2)))))))))))))))))))
    repeat' (first
     | (with_reducible refine isO ?_); first | refine mvA (h := ?_) | refine asA (h := ?_) | refine quA (h := ?_) | refine wnA (h := ?_) | refine caA (hc := hih _) (h := ?_)
     | (with_reducible refine isP ?_); first | refine dqA (h := ?_) | refine dcA (i := 4) (l := [1]) (hc := hih _) (h := ?_) | refine dwA (i := 6) (l := []) (h := ?_) | refine dnA (i := 8) (l := []) (h := ?_) | refine dnA (i := 9) (l := [7, 6]) (h := ?_) | refine dnA (i := 11) (l := []) (h := ?_)
     | (with_reducible refine isC ?_); first | refine ctA (h := ?_) | refine cfA (h := ?_) | refine cdA (h1 := fun _ => ?_) (h0 := fun _ => ?_) | refine cbA (h1 := fun _ => ?_) (h0 := fun _ => ?_)
     | (with_reducible refine isR ?_); first
       | refine Ev.drawn (by decide +kernel) (l := [0, 1, 2, 3, 4, 5, 6, 7, 8]) (by decide +kernel) ?_
       | refine Ev.drawn (by decide +kernel) (l := [0, 1, 2, 3, 4, 5, 6, 7, 8, 9, 10, 11]) (by decide +kernel) ?_
     | with_reducible first | refine Ev.seq ?_ | refine Ev.ops ?_ | refine NxE ?_ | refine BxN ?_ | refine BxX ?_ | refine NxX ?_ | refine NxR ?_ | refine BxR ?_ | refine Ev.block ?_ | refine Ev.skip ?_ | refine Ev.exit ?_ | refine Ev.ret ?_ | refine EvOps.nil ?_ | refine EvPlan.nil ?_
     | (with_reducible refine BxO ?_ ?_; · decide)
     )
    refine ⟨ps.length - (i + 1), by omega, rfl, i + 1, _, _, .own (n + 1), rfl, by omega, ?_, ?_, ?_, ?_, ?_, ?_, ?_, ?_, rfl, ?_, ?_, ?_, by omega⟩
    · refine .inr ⟨n + 1, rfl, ?_, by omega, by omega⟩
      simp (disch := omega) only [hpE]
    · simp only [↓evP, ↓tgP, ↓reduceIte, Nat.reduceEqDiff, reduceCtorEq, List.map_cons, List.map_nil, List.nil_append, List.append_nil, List.toList_toArray, c1]
    · simp only [↓evP, ↓tgP, ↓reduceIte, Nat.reduceEqDiff, reduceCtorEq, List.map_cons, List.map_nil, List.nil_append, List.append_nil, List.toList_toArray, c2]
    · simp only [↓evP, ↓tgP, ↓reduceIte, Nat.reduceEqDiff, reduceCtorEq, List.map_cons, List.map_nil, List.nil_append, List.append_nil, List.toList_toArray, c4]
    · simp only [↓evP, ↓tgP, ↓reduceIte, Nat.reduceEqDiff, reduceCtorEq, List.map_cons, List.map_nil, List.nil_append, List.append_nil, List.toList_toArray, c5]
    · simp only [↓evP, ↓tgP, ↓reduceIte, Nat.reduceEqDiff, reduceCtorEq, List.map_cons, List.map_nil, List.nil_append, List.append_nil, List.toList_toArray, c23]
    · simp only [↓evP, ↓tgP, ↓reduceIte, Nat.reduceEqDiff, reduceCtorEq, List.map_cons, List.map_nil, List.nil_append, List.append_nil, List.toList_toArray, c24]
    · simp only [↓evP, ↓tgP, ↓reduceIte, Nat.reduceEqDiff, reduceCtorEq, List.map_cons, List.map_nil, List.nil_append, List.append_nil, List.toList_toArray, c25]; rfl
    · simp (disch := omega) only [hpE, hd0]
      rw [if_neg (by omega)]
    · refine ⟨w0, w1, w2, w3, w4, w5, ?_⟩
      simp (disch := omega) only [hpE, hd1]
      rw [if_neg (by omega)]
    · simp (disch := omega) only [hpE, hd2, Option.map_some, if_true]
      rw [cs_take (negE · b) hq, hy]
  · obtain rfl : i = ps.length := by omega
    rw [List.take_length] at h2
    cases b
    · skip
      have ex := And.intro @c1 (And.intro @c2 (And.intro @c4 (And.intro @c5 (And.intro @c23 (And.intro @c24 (And.intro @c25 (And.intro @h0 (And.intro @h1 (And.intro @h2 (And.intro @hcl (And.intro @hso (And.intro @hpB (And.intro @hpE @zvE)))))))))))))
      repeat' (first
       | (with_reducible refine isO ?_); first | refine mvA (h := ?_) | refine asA (h := ?_) | refine quA (h := ?_) | refine wnA (h := ?_)
       | (with_reducible refine isP ?_); first | refine dqA (h := ?_) | refine dwA (i := 6) (l := []) (h := ?_) | refine dnA (i := 8) (l := []) (h := ?_) | refine dnA (i := 9) (l := [7, 6]) (h := ?_) | refine dnA (i := 11) (l := []) (h := ?_)
       | (with_reducible refine isC ?_); first | refine ctA (h := ?_) | refine cfA (h := ?_) | refine cdA (h1 := fun _ => ?_) (h0 := fun _ => ?_) | refine cbA (h1 := fun _ => ?_) (h0 := fun _ => ?_)
       | (with_reducible refine isR ?_); first
         | refine Ev.drawn (by decide +kernel) (l := [0, 1, 2, 3, 4, 5, 6, 7, 8]) (by decide +kernel) ?_
         | refine Ev.drawn (by decide +kernel) (l := [0, 1, 2, 3, 4, 5, 6, 7, 8, 9, 10, 11]) (by decide +kernel) ?_
       | with_reducible first | refine Ev.seq ?_ | refine Ev.ops ?_ | refine NxE ?_ | refine BxN ?_ | refine BxX ?_ | refine NxX ?_ | refine NxR ?_ | refine BxR ?_ | refine Ev.block ?_ | refine Ev.skip ?_ | refine Ev.exit ?_ | refine Ev.ret ?_ | refine EvOps.nil ?_ | refine EvPlan.nil ?_
       | (with_reducible refine BxO ?_ ?_; · decide)
       )
      refine lfA (rl := [.cell 4 25]) rfl (hv := by
      simp only [packV, strip, stripAgg, stripCell, List.map_cons, List.map_nil]
      rw [negE, if_neg h4, E.c, negEs_map]; rfl) (hp := (E.pure _))
    · rcases node_kinds hnode h4 with ⟨rfl, rfl⟩ | ⟨rfl, rfl⟩ | ⟨rfl, rfl⟩ | ⟨rfl, rfl⟩ | ⟨rfl, rfl | rfl | rfl | rfl | rfl | rfl⟩
      all_goals skip
      all_goals
        have ex := And.intro @c1 (And.intro @c2 (And.intro @c4 (And.intro @c5 (And.intro @c23 (And.intro @c24 (And.intro @c25 (And.intro @h0 (And.intro @h1 (And.intro @h2 (And.intro @hcl (And.intro @hso (And.intro @hpB (And.intro @hpE (And.intro @zvE @mapE))))))))))))))
        repeat' (first
         | (with_reducible refine isO ?_); first | refine mvA (h := ?_) | refine asA (h := ?_) | refine quA (h := ?_) | refine wnA (h := ?_)
         | (with_reducible refine isP ?_); first | refine dqA (h := ?_) | refine dwA (i := 6) (l := []) (h := ?_) | refine dnA (i := 8) (l := []) (h := ?_) | refine dnA (i := 9) (l := [7, 6]) (h := ?_) | refine dnA (i := 11) (l := []) (h := ?_)
         | (with_reducible refine isC ?_); first | refine ctA (h := ?_) | refine cfA (h := ?_) | refine cdA (h1 := fun _ => ?_) (h0 := fun _ => ?_) | refine cbA (h1 := fun _ => ?_) (h0 := fun _ => ?_)
         | (with_reducible refine isR ?_); first
           | refine Ev.drawn (by decide +kernel) (l := [0, 1, 2, 3, 4, 5, 6, 7, 8]) (by decide +kernel) ?_
           | refine Ev.drawn (by decide +kernel) (l := [0, 1, 2, 3, 4, 5, 6, 7, 8, 9, 10, 11]) (by decide +kernel) ?_
         | with_reducible first | refine Ev.seq ?_ | refine Ev.ops ?_ | refine NxE ?_ | refine BxN ?_ | refine BxX ?_ | refine NxX ?_ | refine NxR ?_ | refine BxR ?_ | refine Ev.block ?_ | refine Ev.skip ?_ | refine Ev.exit ?_ | refine Ev.ret ?_ | refine EvOps.nil ?_ | refine EvPlan.nil ?_
         | (with_reducible refine BxO ?_ ?_; · decide)
         )
      all_goals
        refine lfA (rl := [.cell 4 25]) rfl (hv := by
      simp only [packV, strip, stripAgg, stripCell, List.map_cons, List.map_nil]
      rw [negE, if_neg h4, E.c, negEs_map]; rfl) (hp := (E.pure _))
end Go.Proofs.YtklcmgodhpediaaGreatDoor
/- Expressions without Not: the document. -/
namespace Go.Proofs.YtklcmgodhpediaaGreatDoor
open Go Go.Vm Go.Proofs

end Go.Proofs.YtklcmgodhpediaaGreatDoor
