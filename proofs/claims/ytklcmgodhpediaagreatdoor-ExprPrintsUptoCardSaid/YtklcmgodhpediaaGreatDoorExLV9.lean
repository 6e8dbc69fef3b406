/- strconv.ParseUint; addresses of texts. -/
import Derived.Test.YtklcmgodhpediaaGreatDoorExLV7
import Derived.Test.YtklcmgodhpediaaGreatDoorExLV8
set_option linter.unusedSimpArgs false
set_option linter.unusedVariables false
set_option maxRecDepth 100000
namespace Go.Proofs.YtklcmgodhpediaaGreatDoor.L
open Go Go.Vm Go.Proofs Go.Proofs.YtklcmgodhpediaaGreatDoor

theorem errX {f x : List UInt8} {a b c : Int} {st : St} (h : x.length ≤ 1000000) (hc : c = 1 ∨ c = 2) : FnS cx 100 [.str f, .str x, .int .i64 a, .int .i64 b, .iface 158 (.int .i64 c)] st (.iface 160 .any) st :=
  knownX (by simp only [known]; rw [if_pos ⟨h, hc⟩])
theorem nlN : (∀ x v, binV cx (isNilWord x || isNilWord (.const v)) .neq 109 .niliface .niliface = some (.bool false)) ∧ (∀ n t v, binV cx n .neq 109 (.iface t v) .niliface = some (.bool true)) :=
  ⟨fun x v => by cases h : isNilWord x <;> rfl, fun _ _ _ => by rfl⟩
theorem puL_code (base mx : Nat) : ∀ (l : List UInt8) (n : Nat), (puL base mx n l).2 = 0 ∧ (n ≤ mx → (puL base mx n l).1 ≤ mx) ∨ (puL base mx n l).2 = 1 ∨ (puL base mx n l).2 = 2
  | [], n => .inl ⟨rfl, fun h => h⟩
  | c :: r, n => by
    simp only [puL]
    split
    · exact .inr (.inr rfl)
    · split
      · exact .inr (.inr rfl)
      · split
        · exact .inr (.inl rfl)
        · rename_i h
          rcases puL_code base mx r (n * base + _) with h1 | h1
          · exact .inl ⟨h1.1, fun _ => h1.2 (by omega)⟩
          · exact .inr h1
theorem puE_code (base mx : Nat) (l : List UInt8) : (puE base mx l).2 = 0 ∧ (puE base mx l).1 ≤ mx ∨ (puE base mx l).2 = 1 ∨ (puE base mx l).2 = 2 := by
  unfold puE
  split
  · exact .inr (.inr rfl)
  · rcases puL_code base mx l 0 with h | h
    · exact .inl ⟨h.1, h.2 (by omega)⟩
    · exact .inr h
theorem errV_ok {c : Nat} (h : c = 0) : errV c = .niliface := by unfold errV; rw [if_pos h]
theorem errV_no {c : Nat} (h : c ≠ 0) : errV c = .iface 158 (.int .i64 c) := by unfold errV; rw [if_neg h]
def puW (p : Nat × Nat) : V := .tup [.int .u64 p.1, if p.2 = 0 then .niliface else .iface 160 .any]
theorem pure_puW (p : Nat × Nat) : pureV (puW p) = true := by unfold puW; split <;> rfl
set_option maxHeartbeats 4000000 in
theorem parseS (sx : List UInt8) (hs : sx.length ≤ 1000000) (base bits : Int) (p : Nat × Nat) (hp : p.2 = 0 ∨ p.2 = 1 ∨ p.2 = 2) (h49 : ∀ st, FnS cx 99 [.str sx, .int .i64 base, .int .i64 bits] st (puV p) st) (st : St) : FnS cx 80 [.str sx, .int .i64 base, .int .i64 bits] st (puW p) st := by
  by_cases h0 : p.2 = 0
  · have e0 : errV p.2 = .niliface := errV_ok h0
    have h49' : ∀ st, FnS cx 99 [.str sx, .int .i64 base, .int .i64 bits] st (.tup [.int .u64 p.1, .niliface]) st := fun st => by have := h49 st; unfold puV at this; rw [e0] at this; exact this
    refine goP Tryz.func80 rfl rfl rfl rfl ?_ ?_
    · rfl
    intro t ht
    have a0 : tget t 0 = .str sx := ht 0 _ rfl
    have a1 : tget t 1 = .int .i64 base := ht 1 _ rfl
    have a2 : tget t 2 = .int .i64 bits := ht 2 _ rfl
    clear ht
    have ex := And.intro @a0 (And.intro @a1 (And.intro @a2 @nlN))
    repeat' (first
     | (with_reducible refine isO ?_); first | refine mvA (h := ?_) | refine asA (h := ?_) | refine quA (h := ?_) | refine caA (hc := h49' _) (h := ?_)
     | (with_reducible refine isC ?_); first | refine ctA (h := ?_) | refine cfA (h := ?_) | refine cdA (h1 := fun _ => ?_) (h0 := fun _ => ?_) | refine cbA (h1 := fun _ => ?_) (h0 := fun _ => ?_)
     | with_reducible first | refine Ev.seq ?_ | refine Ev.ops ?_ | refine NxE ?_ | refine BxN ?_ | refine BxX ?_ | refine NxX ?_ | refine NxR ?_ | refine BxR ?_ | refine Ev.block ?_ | refine Ev.skip ?_ | refine Ev.exit ?_ | refine Ev.ret ?_ | refine EvOps.nil ?_ | refine EvPlan.nil ?_
     | (with_reducible refine BxO ?_ ?_; · decide)
     )
    all_goals refine lfA (rl := [.tmp 6, .tmp 7]) rfl (hv := by
      simp only [packV, strip, stripAgg, stripCell, List.map_cons, List.map_nil]
      (unfold puW; rw [if_pos h0]; first | done | rfl)) (hp := (pure_puW _))
  · have e0 : errV p.2 = .iface 158 (.int .i64 p.2) := errV_no h0
    have h49' : ∀ st, FnS cx 99 [.str sx, .int .i64 base, .int .i64 bits] st (.tup [.int .u64 p.1, .iface 158 (.int .i64 p.2)]) st := fun st => by have := h49 st; unfold puV at this; rw [e0] at this; exact this
    refine goP Tryz.func80 rfl rfl rfl rfl ?_ ?_
    · rfl
    intro t ht
    have a0 : tget t 0 = .str sx := ht 0 _ rfl
    have a1 : tget t 1 = .int .i64 base := ht 1 _ rfl
    have a2 : tget t 2 = .int .i64 bits := ht 2 _ rfl
    clear ht
    have ex := And.intro @a0 (And.intro @a1 (And.intro @a2 @nlN))
    repeat' (first
     | (with_reducible refine isO ?_); first | refine mvA (h := ?_) | refine asA (h := ?_) | refine quA (h := ?_) | refine caA (hc := h49' _) (h := ?_) | refine caA (hc := errX hs (by omega)) (h := ?_)
     | (with_reducible refine isC ?_); first | refine ctA (h := ?_) | refine cfA (h := ?_) | refine cdA (h1 := fun _ => ?_) (h0 := fun _ => ?_) | refine cbA (h1 := fun _ => ?_) (h0 := fun _ => ?_)
     | with_reducible first | refine Ev.seq ?_ | refine Ev.ops ?_ | refine NxE ?_ | refine BxN ?_ | refine BxX ?_ | refine NxX ?_ | refine NxR ?_ | refine BxR ?_ | refine Ev.block ?_ | refine Ev.skip ?_ | refine Ev.exit ?_ | refine Ev.ret ?_ | refine EvOps.nil ?_ | refine EvPlan.nil ?_
     | (with_reducible refine BxO ?_ ?_; · decide)
     )
    all_goals refine lfA (rl := [.tmp 6, .tmp 7]) rfl (hv := by
      simp only [packV, strip, stripAgg, stripCell, List.map_cons, List.map_nil]
      (unfold puW; rw [if_neg h0]; first | done | rfl)) (hp := (pure_puW _))

theorem okOf {p : Nat × Nat} {k : FuncId} {args : List V} {st : St} (h : FnS cx k args st (puW p) st) (h0 : p.2 = 0) : FnS cx k args st (.tup [.int .u64 p.1, .niliface]) st := by unfold puW at h; rw [if_pos h0] at h; exact h
theorem noOf {p : Nat × Nat} {k : FuncId} {args : List V} {st : St} (h : FnS cx k args st (puW p) st) (h0 : ¬ p.2 = 0) : FnS cx k args st (.tup [.int .u64 p.1, .iface 160 .any]) st := by unfold puW at h; rw [if_neg h0] at h; exact h
theorem code3 (base mx : Nat) (l : List UInt8) : (puE base mx l).2 = 0 ∨ (puE base mx l).2 = 1 ∨ (puE base mx l).2 = 2 := (puE_code base mx l).imp And.left id
theorem parse16_8 (sx : List UInt8) (hs : sx.length ≤ 1000000) (st : St) : FnS cx 80 [.str sx, .int .i64 16, .int .i64 8] st (puW (puE 16 255 sx)) st := parseS sx hs 16 8 _ (code3 _ _ _) (pu16_8 sx hs) st
theorem parse10_8 (sx : List UInt8) (hs : sx.length ≤ 1000000) (st : St) : FnS cx 80 [.str sx, .int .i64 10, .int .i64 8] st (puW (puE 10 255 sx)) st := parseS sx hs 10 8 _ (code3 _ _ _) (pu10_8 sx hs) st

theorem splitC_len (c : UInt8) : ∀ (x : List UInt8), ∀ y ∈ splitC c x, y.length ≤ x.length
  | [], y, h => by simp only [splitC, List.mem_singleton] at h; subst h; exact Nat.le_refl _
  | b :: r, y, h => by
    have ih := splitC_len c r
    unfold splitC at h
    split at h
    · rcases List.mem_cons.1 h with rfl | h
      · simp
      · have := ih y h; simp; omega
    · split at h
      · simp only [List.mem_singleton] at h; subst h; simp
      · rename_i x l hx
        rcases List.mem_cons.1 h with rfl | h
        · have := ih x (by rw [hx]; simp); simp; omega
        · have := ih y (by rw [hx]; simp [h]); simp; omega
theorem splitC_count (c : UInt8) : ∀ (x : List UInt8), (splitC c x).length ≤ x.length + 1
  | [] => by simp [splitC]
  | b :: r => by
    have ih := splitC_count c r
    unfold splitC
    split
    · simp; omega
    · split
      · simp
      · rename_i x l hx
        rw [hx] at ih
        simp at ih ⊢; omega
theorem strsAt {l : List (List UInt8)} {i : Nat} (h : i < l.length) : (l.map V.str)[i]? = some (.str (l.getD i [])) := by
  rw [List.getElem?_map, List.getElem?_eq_getElem h]; simp [h]
theorem szStr (l : List (List UInt8)) : szOk 1 (l.map V.str) = true := by cases l <;> rfl
theorem lenStr (l : List (List UInt8)) : (l.map V.str).length = l.length := List.length_map _
theorem or64 {a n : Int} (h0 : 0 ≤ a) (h1 : a < 18446744073709551616) (h2 : a % 256 = 0) (h3 : 0 ≤ n) (h4 : n < 256) : IntKind.u64.wrap ((BitVec.ofInt IntKind.u64.bits a ||| BitVec.ofInt IntKind.u64.bits n).toNat : Int) = a + n := by
  obtain ⟨q, rfl⟩ : ∃ q : Nat, a = ((q * 256 : Nat) : Int) := ⟨(a / 256).toNat, by omega⟩
  obtain ⟨m, rfl⟩ : ∃ m : Nat, n = (m : Int) := ⟨n.toNat, by omega⟩
  have key : (BitVec.ofInt 64 ((q * 256 : Nat) : Int) ||| BitVec.ofInt 64 (m : Int)).toNat = q * 256 + m := by
    rw [BitVec.toNat_or, BitVec.ofInt_natCast, BitVec.ofInt_natCast, BitVec.toNat_ofNat, BitVec.toNat_ofNat, Nat.mod_eq_of_lt (by omega), Nat.mod_eq_of_lt (by omega)]
    have := Nat.shiftLeft_add_eq_or_of_lt (a := q) (b := m) (i := 8) (by omega)
    rw [Nat.shiftLeft_eq] at this
    simpa using this.symm
  show IntKind.u64.wrap ((BitVec.ofInt 64 _ ||| BitVec.ofInt 64 _).toNat : Int) = _
  rw [key, wU64]
  omega
theorem or32 {a n : Int} (h0 : 0 ≤ a) (h1 : a < 4294967296) (h2 : a % 256 = 0) (h3 : 0 ≤ n) (h4 : n < 256) : IntKind.u32.wrap ((BitVec.ofInt IntKind.u32.bits a ||| BitVec.ofInt IntKind.u32.bits n).toNat : Int) = a + n := by
  obtain ⟨q, rfl⟩ : ∃ q : Nat, a = ((q * 256 : Nat) : Int) := ⟨(a / 256).toNat, by omega⟩
  obtain ⟨m, rfl⟩ : ∃ m : Nat, n = (m : Int) := ⟨n.toNat, by omega⟩
  have key : (BitVec.ofInt 32 ((q * 256 : Nat) : Int) ||| BitVec.ofInt 32 (m : Int)).toNat = q * 256 + m := by
    rw [BitVec.toNat_or, BitVec.ofInt_natCast, BitVec.ofInt_natCast, BitVec.toNat_ofNat, BitVec.toNat_ofNat, Nat.mod_eq_of_lt (by omega), Nat.mod_eq_of_lt (by omega)]
    have := Nat.shiftLeft_add_eq_or_of_lt (a := q) (b := m) (i := 8) (by omega)
    rw [Nat.shiftLeft_eq] at this
    simpa using this.symm
  show IntKind.u32.wrap ((BitVec.ofInt 32 _ ||| BitVec.ofInt 32 _).toNat : Int) = _
  rw [key, wU32]
  omega
def okV (k : IntKind) (r : Option Nat) : V := match r with
  | some x => .tup [.int k x, .bool true]
  | none => .tup [.int k 0, .bool false]
theorem pure_okV (k : IntKind) (r : Option Nat) : pureV (okV k r) = true := by cases r <;> rfl

set_option maxHeartbeats 8000000 in
theorem macS (sx : List UInt8) (hs : sx.length ≤ 900000) (st : St) : FnS cx 74 [.str sx] st (okV .u64 (macR sx)) st := by
  refine goP Tryz.func74 rfl rfl rfl rfl ?_ ?_
  · rfl
  intro t ht
  have a0 : tget t 0 = .str sx := ht 0 _ rfl
  clear ht
  have ex := And.intro @a0 @lenStr
  repeat' (first
   | (with_reducible refine isO ?_); first | refine mvA (h := ?_) | refine asA (h := ?_) | refine quA (h := ?_) | refine caA (hc := splitX (by omega)) (h := ?_)
   | (with_reducible refine isC ?_); first | refine ctA (h := ?_) | refine cfA (h := ?_) | refine cdA (h1 := fun _ => ?_) (h0 := fun _ => ?_) | refine cbA (h1 := fun _ => ?_) (h0 := fun _ => ?_)
   | with_reducible first | refine Ev.seq ?_ | refine Ev.ops ?_ | refine NxE ?_ | refine BxN ?_ | refine BxX ?_ | refine NxX ?_ | refine NxR ?_ | refine BxR ?_ | refine Ev.block ?_ | refine Ev.skip ?_ | refine Ev.exit ?_ | refine Ev.ret ?_ | refine EvOps.nil ?_ | refine EvPlan.nil ?_
   | (with_reducible refine BxO ?_ ?_; · decide)
   )
  have hL := splitC_count 58 sx
  have hY := splitC_len 58 sx
  have hR : macR sx = (partsR 16 18446744073709551616 0 (splitC 58 sx)).bind fun x => if macText x = sx then some x else none := rfl
  generalize splitC 58 sx = l at *
  refine loopT (fun r t st => ∃ (j x : Nat), r = l.length - j ∧ j ≤ l.length ∧ x < 18446744073709551616 ∧ partsR 16 18446744073709551616 0 l = partsR 16 18446744073709551616 x (l.drop j) ∧ tget t 0 = .str sx ∧ tget t 4 = .int .u64 x ∧ tget t 10 = .sl .full (l.map .str) ∧ tget t 11 = .int .i64 l.length ∧ tget t 12 = .int .i64 j) (n := l.length) ?_ ?_
  · refine ⟨0, 0, by omega, by omega, by omega, by rw [List.drop_zero], ?_, ?_, ?_, ?_, ?_⟩
    all_goals (simp only [↓evP, ↓tgP, ↓reduceIte, Nat.reduceEqDiff, reduceCtorEq, List.map_cons, List.map_nil, List.nil_append, List.append_nil, List.toList_toArray, a0, lenStr]; try rfl)
  rintro r t st ⟨j, x, rfl, hj, hx, he, c0, c4, c10, c11, c12⟩
  have hcons : j < l.length → l.drop j = l.getD j [] :: l.drop (j + 1) := fun h => by rw [List.drop_eq_getElem_cons h]; simp [h]
  by_cases hjl : j < l.length
  · have hlen : (l.getD j []).length ≤ 1000000 := by
      have := hY (l.getD j []) (by rw [List.getD_eq_getElem?_getD, List.getElem?_eq_getElem hjl]; simp)
      omega
    have hcode := puE_code 16 255 (l.getD j [])
    by_cases h0 : (puE 16 255 (l.getD j [])).2 = 0
    · have h255 : (puE 16 255 (l.getD j [])).1 < 256 := by omega
      have ex := And.intro @c0 (And.intro @c4 (And.intro @c10 (And.intro @c11 (And.intro @c12 (And.intro @strsAt (And.intro @szStr @nlN))))))
      have exd := @or64
      repeat' (first
       | (with_reducible refine isO ?_); first | refine mvA (h := ?_) | refine asA (h := ?_) | refine quA (h := ?_) | refine caA (hc := okOf (parse16_8 _ hlen _) h0) (h := ?_)
       | (with_reducible refine isC ?_); first | refine ctA (h := ?_) | refine cfA (h := ?_) | refine cdA (h1 := fun _ => ?_) (h0 := fun _ => ?_) | refine cbA (h1 := fun _ => ?_) (h0 := fun _ => ?_)
       | with_reducible first | refine Ev.seq ?_ | refine Ev.ops ?_ | refine NxE ?_ | refine BxN ?_ | refine BxX ?_ | refine NxX ?_ | refine NxR ?_ | refine BxR ?_ | refine Ev.block ?_ | refine Ev.skip ?_ | refine Ev.exit ?_ | refine Ev.ret ?_ | refine EvOps.nil ?_ | refine EvPlan.nil ?_
       | (with_reducible refine BxO ?_ ?_; · decide)
       )
      all_goals first
        | (exfalso; omega)
        | (refine ⟨l.length - (j + 1), by omega, rfl, j + 1, (x * 256 + (puE 16 255 (l.getD j [])).1) % 18446744073709551616, rfl, by omega, by omega, ?_, ?_, ?_, ?_, ?_, ?_⟩
           · rw [he, hcons hjl, partsR, puR, if_pos h0]; rfl
           all_goals simp only [↓evP, ↓tgP, ↓reduceIte, Nat.reduceEqDiff, reduceCtorEq, List.map_cons, List.map_nil, List.nil_append, List.append_nil, List.toList_toArray, c0, c4, c10, c11, c12]
           all_goals first | rfl | (congr 1; omega))
    · skip
      have ex := And.intro @c0 (And.intro @c4 (And.intro @c10 (And.intro @c11 (And.intro @c12 (And.intro @strsAt (And.intro @szStr @nlN))))))
      repeat' (first
       | (with_reducible refine isO ?_); first | refine mvA (h := ?_) | refine asA (h := ?_) | refine quA (h := ?_) | refine caA (hc := noOf (parse16_8 _ hlen _) h0) (h := ?_)
       | (with_reducible refine isC ?_); first | refine ctA (h := ?_) | refine cfA (h := ?_) | refine cdA (h1 := fun _ => ?_) (h0 := fun _ => ?_) | refine cbA (h1 := fun _ => ?_) (h0 := fun _ => ?_)
       | with_reducible first | refine Ev.seq ?_ | refine Ev.ops ?_ | refine NxE ?_ | refine BxN ?_ | refine BxX ?_ | refine NxX ?_ | refine NxR ?_ | refine BxR ?_ | refine Ev.block ?_ | refine Ev.skip ?_ | refine Ev.exit ?_ | refine Ev.ret ?_ | refine EvOps.nil ?_ | refine EvPlan.nil ?_
       | (with_reducible refine BxO ?_ ?_; · decide)
       )
      all_goals first
        | (exfalso; omega)
        | refine lfA (rl := [.tmp 2, .tmp 3]) rfl (hv := by
      simp only [packV, strip, stripAgg, stripCell, List.map_cons, List.map_nil]
      (rw [hR, he, hcons hjl, partsR, puR, if_neg h0]; first | done | rfl)) (hp := (pure_okV _ _))
  · have hP : partsR 16 18446744073709551616 0 l = some x := by rw [he, List.drop_of_length_le (by omega)]; rfl
    by_cases htx : macText x = sx
    · skip
      have ex := And.intro @c0 (And.intro @c4 (And.intro @c10 (And.intro @c11 (And.intro @c12 (And.intro @strsAt (And.intro @szStr (And.intro @nlN @htx)))))))
      repeat' (first
       | (with_reducible refine isO ?_); first | refine mvA (h := ?_) | refine asA (h := ?_) | refine quA (h := ?_) | refine caA (hc := macTextS _ hx _) (h := ?_)
       | (with_reducible refine isC ?_); first | refine ctA (h := ?_) | refine cfA (h := ?_) | refine cdA (h1 := fun _ => ?_) (h0 := fun _ => ?_) | refine cbA (h1 := fun _ => ?_) (h0 := fun _ => ?_)
       | with_reducible first | refine Ev.seq ?_ | refine Ev.ops ?_ | refine NxE ?_ | refine BxN ?_ | refine BxX ?_ | refine NxX ?_ | refine NxR ?_ | refine BxR ?_ | refine Ev.block ?_ | refine Ev.skip ?_ | refine Ev.exit ?_ | refine Ev.ret ?_ | refine EvOps.nil ?_ | refine EvPlan.nil ?_
       | (with_reducible refine BxO ?_ ?_; · decide)
       )
      all_goals first
        | (exfalso; omega)
        | refine lfA (rl := [.tmp 2, .tmp 3]) rfl (hv := by
      simp only [packV, strip, stripAgg, stripCell, List.map_cons, List.map_nil]
      (rw [hR, hP, Option.bind_some, if_pos htx]; first | done | rfl)) (hp := (pure_okV _ _))
    · skip
      have ex := And.intro @c0 (And.intro @c4 (And.intro @c10 (And.intro @c11 (And.intro @c12 (And.intro @strsAt (And.intro @szStr (And.intro @nlN @htx)))))))
      repeat' (first
       | (with_reducible refine isO ?_); first | refine mvA (h := ?_) | refine asA (h := ?_) | refine quA (h := ?_) | refine caA (hc := macTextS _ hx _) (h := ?_)
       | (with_reducible refine isC ?_); first | refine ctA (h := ?_) | refine cfA (h := ?_) | refine cdA (h1 := fun _ => ?_) (h0 := fun _ => ?_) | refine cbA (h1 := fun _ => ?_) (h0 := fun _ => ?_)
       | with_reducible first | refine Ev.seq ?_ | refine Ev.ops ?_ | refine NxE ?_ | refine BxN ?_ | refine BxX ?_ | refine NxX ?_ | refine NxR ?_ | refine BxR ?_ | refine Ev.block ?_ | refine Ev.skip ?_ | refine Ev.exit ?_ | refine Ev.ret ?_ | refine EvOps.nil ?_ | refine EvPlan.nil ?_
       | (with_reducible refine BxO ?_ ?_; · decide)
       )
      all_goals first
        | (exfalso; omega)
        | refine lfA (rl := [.tmp 2, .tmp 3]) rfl (hv := by
      simp only [packV, strip, stripAgg, stripCell, List.map_cons, List.map_nil]
      (rw [hR, hP, Option.bind_some, if_neg htx]; first | done | rfl)) (hp := (pure_okV _ _))

set_option maxHeartbeats 8000000 in
theorem addrS (sx : List UInt8) (hs : sx.length ≤ 900000) (st : St) : FnS cx 77 [.str sx] st (okV .u32 (addrR sx)) st := by
  refine goP Tryz.func77 rfl rfl rfl rfl ?_ ?_
  · rfl
  intro t ht
  have a0 : tget t 0 = .str sx := ht 0 _ rfl
  clear ht
  have ex := And.intro @a0 @lenStr
  repeat' (first
   | (with_reducible refine isO ?_); first | refine mvA (h := ?_) | refine asA (h := ?_) | refine quA (h := ?_) | refine caA (hc := splitX (by omega)) (h := ?_)
   | (with_reducible refine isC ?_); first | refine ctA (h := ?_) | refine cfA (h := ?_) | refine cdA (h1 := fun _ => ?_) (h0 := fun _ => ?_) | refine cbA (h1 := fun _ => ?_) (h0 := fun _ => ?_)
   | with_reducible first | refine Ev.seq ?_ | refine Ev.ops ?_ | refine NxE ?_ | refine BxN ?_ | refine BxX ?_ | refine NxX ?_ | refine NxR ?_ | refine BxR ?_ | refine Ev.block ?_ | refine Ev.skip ?_ | refine Ev.exit ?_ | refine Ev.ret ?_ | refine EvOps.nil ?_ | refine EvPlan.nil ?_
   | (with_reducible refine BxO ?_ ?_; · decide)
   )
  have hL := splitC_count 46 sx
  have hY := splitC_len 46 sx
  have hR : addrR sx = (partsR 10 4294967296 0 (splitC 46 sx)).bind fun x => if addrText x = sx then some x else none := rfl
  generalize splitC 46 sx = l at *
  refine loopT (fun r t st => ∃ (j x : Nat), r = l.length - j ∧ j ≤ l.length ∧ x < 4294967296 ∧ partsR 10 4294967296 0 l = partsR 10 4294967296 x (l.drop j) ∧ tget t 0 = .str sx ∧ tget t 4 = .int .u32 x ∧ tget t 10 = .sl .full (l.map .str) ∧ tget t 11 = .int .i64 l.length ∧ tget t 12 = .int .i64 j) (n := l.length) ?_ ?_
  · refine ⟨0, 0, by omega, by omega, by omega, by rw [List.drop_zero], ?_, ?_, ?_, ?_, ?_⟩
    all_goals (simp only [↓evP, ↓tgP, ↓reduceIte, Nat.reduceEqDiff, reduceCtorEq, List.map_cons, List.map_nil, List.nil_append, List.append_nil, List.toList_toArray, a0, lenStr]; try rfl)
  rintro r t st ⟨j, x, rfl, hj, hx, he, c0, c4, c10, c11, c12⟩
  have hcons : j < l.length → l.drop j = l.getD j [] :: l.drop (j + 1) := fun h => by rw [List.drop_eq_getElem_cons h]; simp [h]
  by_cases hjl : j < l.length
  · have hlen : (l.getD j []).length ≤ 1000000 := by
      have := hY (l.getD j []) (by rw [List.getD_eq_getElem?_getD, List.getElem?_eq_getElem hjl]; simp)
      omega
    have hcode := puE_code 10 255 (l.getD j [])
    by_cases h0 : (puE 10 255 (l.getD j [])).2 = 0
    · have h255 : (puE 10 255 (l.getD j [])).1 < 256 := by omega
      have ex := And.intro @c0 (And.intro @c4 (And.intro @c10 (And.intro @c11 (And.intro @c12 (And.intro @strsAt (And.intro @szStr @nlN))))))
      have exd := @or32
      repeat' (first
       | (with_reducible refine isO ?_); first | refine mvA (h := ?_) | refine asA (h := ?_) | refine quA (h := ?_) | refine caA (hc := okOf (parse10_8 _ hlen _) h0) (h := ?_)
       | (with_reducible refine isC ?_); first | refine ctA (h := ?_) | refine cfA (h := ?_) | refine cdA (h1 := fun _ => ?_) (h0 := fun _ => ?_) | refine cbA (h1 := fun _ => ?_) (h0 := fun _ => ?_)
       | with_reducible first | refine Ev.seq ?_ | refine Ev.ops ?_ | refine NxE ?_ | refine BxN ?_ | refine BxX ?_ | refine NxX ?_ | refine NxR ?_ | refine BxR ?_ | refine Ev.block ?_ | refine Ev.skip ?_ | refine Ev.exit ?_ | refine Ev.ret ?_ | refine EvOps.nil ?_ | refine EvPlan.nil ?_
       | (with_reducible refine BxO ?_ ?_; · decide)
       )
      all_goals first
        | (exfalso; omega)
        | (refine ⟨l.length - (j + 1), by omega, rfl, j + 1, (x * 256 + (puE 10 255 (l.getD j [])).1) % 4294967296, rfl, by omega, by omega, ?_, ?_, ?_, ?_, ?_, ?_⟩
           · rw [he, hcons hjl, partsR, puR, if_pos h0]; rfl
           all_goals simp only [↓evP, ↓tgP, ↓reduceIte, Nat.reduceEqDiff, reduceCtorEq, List.map_cons, List.map_nil, List.nil_append, List.append_nil, List.toList_toArray, c0, c4, c10, c11, c12]
           all_goals first | rfl | (congr 1; omega))
    · skip
      have ex := And.intro @c0 (And.intro @c4 (And.intro @c10 (And.intro @c11 (And.intro @c12 (And.intro @strsAt (And.intro @szStr @nlN))))))
      repeat' (first
       | (with_reducible refine isO ?_); first | refine mvA (h := ?_) | refine asA (h := ?_) | refine quA (h := ?_) | refine caA (hc := noOf (parse10_8 _ hlen _) h0) (h := ?_)
       | (with_reducible refine isC ?_); first | refine ctA (h := ?_) | refine cfA (h := ?_) | refine cdA (h1 := fun _ => ?_) (h0 := fun _ => ?_) | refine cbA (h1 := fun _ => ?_) (h0 := fun _ => ?_)
       | with_reducible first | refine Ev.seq ?_ | refine Ev.ops ?_ | refine NxE ?_ | refine BxN ?_ | refine BxX ?_ | refine NxX ?_ | refine NxR ?_ | refine BxR ?_ | refine Ev.block ?_ | refine Ev.skip ?_ | refine Ev.exit ?_ | refine Ev.ret ?_ | refine EvOps.nil ?_ | refine EvPlan.nil ?_
       | (with_reducible refine BxO ?_ ?_; · decide)
       )
      all_goals first
        | (exfalso; omega)
        | refine lfA (rl := [.tmp 2, .tmp 3]) rfl (hv := by
      simp only [packV, strip, stripAgg, stripCell, List.map_cons, List.map_nil]
      (rw [hR, he, hcons hjl, partsR, puR, if_neg h0]; first | done | rfl)) (hp := (pure_okV _ _))
  · have hP : partsR 10 4294967296 0 l = some x := by rw [he, List.drop_of_length_le (by omega)]; rfl
    by_cases htx : addrText x = sx
    · skip
      have ex := And.intro @c0 (And.intro @c4 (And.intro @c10 (And.intro @c11 (And.intro @c12 (And.intro @strsAt (And.intro @szStr (And.intro @nlN @htx)))))))
      repeat' (first
       | (with_reducible refine isO ?_); first | refine mvA (h := ?_) | refine asA (h := ?_) | refine quA (h := ?_) | refine caA (hc := addrTextS _ hx _) (h := ?_)
       | (with_reducible refine isC ?_); first | refine ctA (h := ?_) | refine cfA (h := ?_) | refine cdA (h1 := fun _ => ?_) (h0 := fun _ => ?_) | refine cbA (h1 := fun _ => ?_) (h0 := fun _ => ?_)
       | with_reducible first | refine Ev.seq ?_ | refine Ev.ops ?_ | refine NxE ?_ | refine BxN ?_ | refine BxX ?_ | refine NxX ?_ | refine NxR ?_ | refine BxR ?_ | refine Ev.block ?_ | refine Ev.skip ?_ | refine Ev.exit ?_ | refine Ev.ret ?_ | refine EvOps.nil ?_ | refine EvPlan.nil ?_
       | (with_reducible refine BxO ?_ ?_; · decide)
       )
      all_goals first
        | (exfalso; omega)
        | refine lfA (rl := [.tmp 2, .tmp 3]) rfl (hv := by
      simp only [packV, strip, stripAgg, stripCell, List.map_cons, List.map_nil]
      (rw [hR, hP, Option.bind_some, if_pos htx]; first | done | rfl)) (hp := (pure_okV _ _))
    · skip
      have ex := And.intro @c0 (And.intro @c4 (And.intro @c10 (And.intro @c11 (And.intro @c12 (And.intro @strsAt (And.intro @szStr (And.intro @nlN @htx)))))))
      repeat' (first
       | (with_reducible refine isO ?_); first | refine mvA (h := ?_) | refine asA (h := ?_) | refine quA (h := ?_) | refine caA (hc := addrTextS _ hx _) (h := ?_)
       | (with_reducible refine isC ?_); first | refine ctA (h := ?_) | refine cfA (h := ?_) | refine cdA (h1 := fun _ => ?_) (h0 := fun _ => ?_) | refine cbA (h1 := fun _ => ?_) (h0 := fun _ => ?_)
       | with_reducible first | refine Ev.seq ?_ | refine Ev.ops ?_ | refine NxE ?_ | refine BxN ?_ | refine BxX ?_ | refine NxX ?_ | refine NxR ?_ | refine BxR ?_ | refine Ev.block ?_ | refine Ev.skip ?_ | refine Ev.exit ?_ | refine Ev.ret ?_ | refine EvOps.nil ?_ | refine EvPlan.nil ?_
       | (with_reducible refine BxO ?_ ?_; · decide)
       )
      all_goals first
        | (exfalso; omega)
        | refine lfA (rl := [.tmp 2, .tmp 3]) rfl (hv := by
      simp only [packV, strip, stripAgg, stripCell, List.map_cons, List.map_nil]
      (rw [hR, hP, Option.bind_some, if_neg htx]; first | done | rfl)) (hp := (pure_okV _ _))

end Go.Proofs.YtklcmgodhpediaaGreatDoor.L
