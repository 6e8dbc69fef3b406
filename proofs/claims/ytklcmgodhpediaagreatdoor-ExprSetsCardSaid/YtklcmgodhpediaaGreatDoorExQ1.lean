/- Texts of sets, their tokens, what they are read to. -/
import Derived.Test.YtklcmgodhpediaaGreatDoorExK9
import Derived.Test.YtklcmgodhpediaaGreatDoorExN0
import Derived.Test.YtklcmgodhpediaaGreatDoorExLP4
import Derived.Test.YtklcmgodhpediaaGreatDoorExSC
set_option linter.unusedSimpArgs false
set_option linter.unusedVariables false
set_option maxRecDepth 100000
namespace Go.Proofs.YtklcmgodhpediaaGreatDoor.K
open Go Go.Vm Go.Proofs Go.Proofs.YtklcmgodhpediaaGreatDoor

/-! Tokens without their places. -/
abbrev Key := Int × List UInt8 × Int
def key (t : L.Tok) : Key := (t.kind, t.text, t.num)
theorem key_cons {l : List L.Tok} {k x : Int} {t : List UInt8} {ts : List Key} (h : l.map key = (k, t, x) :: ts) : ∃ a l', l = ⟨k, t, x, a⟩ :: l' ∧ l'.map key = ts := by
  cases l with
  | nil => cases h
  | cons y r =>
    obtain ⟨k', t', x', a⟩ := y
    simp only [List.map_cons, key, List.cons.injEq, Prod.mk.injEq] at h
    obtain ⟨⟨rfl, rfl, rfl⟩, rfl⟩ := h
    exact ⟨a, r, rfl, rfl⟩
/-- A text is read to these tokens. -/
inductive Lx : List UInt8 → List Key → Prop
  | nil : Lx [] [(7, [], 0)]
  | tok {w r t : List UInt8} {k n : Nat} {x : Nat} {ts : List Key} : w ≠ [] → L.stepL (w ++ r) = .tok k w.length t x → Lx r ts → Lx (w ++ r) (((k : Int), t, (x : Int)) :: ts)
  | sp {r : List UInt8} {ts : List Key} : Lx r ts → Lx (32 :: r) ts
theorem Lx.lex {u : List UInt8} {ts : List Key} (h : Lx u ts) : ∀ f a : Nat, u.length < f → ∃ l, L.lexR f u a = .inl l ∧ l.map key = ts := by
  induction h with
  | nil =>
    intro f a hf
    obtain ⟨f, rfl⟩ : ∃ g, f = g + 1 := ⟨f - 1, by omega⟩
    exact ⟨_, rfl, rfl⟩
  | @tok w r t k n x ts h0 hs _ ih =>
    intro f a hf
    obtain ⟨f, rfl⟩ : ∃ g, f = g + 1 := ⟨f - 1, by omega⟩
    have hw : 0 < w.length := List.length_pos_iff.2 h0
    obtain ⟨l, h1, h2⟩ := ih f (a + w.length) (by simp at hf; omega)
    rw [L.lexR_step h0 hs, h1]
    exact ⟨_, rfl, by rw [List.map_cons, h2]; rfl⟩
  | @sp r ts _ ih =>
    intro f a hf
    obtain ⟨f, rfl⟩ : ∃ g, f = g + 1 := ⟨f - 1, by omega⟩
    obtain ⟨l, h1, h2⟩ := ih f (a + 1) (by simp at hf; omega)
    refine ⟨l, ?_, h2⟩
    have e : L.lexR (f + 1) (32 :: r) a = L.lexR f r (a + 1) := by simp only [L.lexR, L.stepU_sp]; rfl
    rw [e]
    exact h1
theorem Lx.lexA {u : List UInt8} {ts : List Key} (h : Lx u ts) (hl : u.length ≤ 4096) : ∃ l, L.lexA u = (l, 0, 0) ∧ l.map key = ts := by
  obtain ⟨l, h1, h2⟩ := h.lex (u.length + 1) 0 (by omega)
  refine ⟨l, ?_, h2⟩
  unfold L.lexA
  rw [if_neg (by omega), h1]
/-- An operator of one byte. -/
theorem Lx.op {c : UInt8} {r : List UInt8} {ts : List Key} (hc : ¬ (c = 32 ∨ c = 9 ∨ c = 10 ∨ c = 13) ∧ c ≠ 35 ∧ ¬ L.hexP c.toNat ∧ ¬ L.dotP c.toNat ∧ ¬ L.letP c.toNat ∧ c ≠ 34) (ho : L.opT (c :: r) = some [c]) (h : Lx r ts) : Lx (c :: r) ((5, [c], 0) :: ts) :=
  Lx.tok (w := [c]) (r := r) (k := 5) (n := 0) (x := 0) (by simp) (L.step_op (c := c) (r := r) (o := [c]) hc.1 hc.2.1 hc.2.2.1 (L.addrT_no0 hc.2.2.2.1) hc.2.2.2.2.1 hc.2.2.2.2.2 ho) h
theorem Lx.ops {o r : List UInt8} {ts : List Key} (ho : o ∈ L.opsL) (h0 : o ≠ []) (hr : L.Sep r) (h : Lx r ts) : Lx (o ++ r) ((5, o, 0) :: ts) :=
  Lx.tok (w := o) (r := r) (k := 5) (n := 0) (x := 0) h0 (L.op_again ho hr) h
theorem Lx.name {c : UInt8} {w r : List UInt8} {ts : List Key} (hc : L.letP c.toNat) (hw : ∀ d ∈ w, L.nameP d.toNat) (hr : L.Sep r) (h : Lx r ts) : Lx (c :: w ++ r) ((1, c :: w, 0) :: ts) :=
  Lx.tok (w := c :: w) (r := r) (k := 1) (n := 0) (x := 0) (by simp) (L.name_again hc hw hr) h
def hexT (v : Nat) : List UInt8 := 48 :: 120 :: L.hexDigits v
theorem Lx.hex {v : Nat} {r : List UInt8} {ts : List Key} (hv : v < 18446744073709551616) (hr : L.Sep r) (h : Lx r ts) : Lx (hexT v ++ r) ((2, hexT v, (v : Int)) :: ts) :=
  Lx.tok (w := hexT v) (r := r) (k := 2) (n := 0) (x := v) (by simp [hexT]) (L.hex_tok v hv hr) h

/-! Sets. -/
def tailT : List Nat → List UInt8
  | [] => []
  | v :: r => 44 :: 32 :: (hexT v ++ tailT r)
def setT : List Nat → List UInt8
  | [] => []
  | v :: r => hexT v ++ tailT r
def tailK : List Nat → List Key
  | [] => []
  | v :: r => (5, [44], 0) :: (2, hexT v, (v : Int)) :: tailK r
theorem tail_snoc : ∀ (l : List Nat) (v : Nat), tailT (l ++ [v]) = tailT l ++ (44 :: 32 :: hexT v)
  | [], v => by simp [tailT]
  | a :: r, v => by simp only [List.cons_append, tailT, tail_snoc r v, List.append_assoc]
theorem set_snoc {l : List Nat} (h : l ≠ []) (v : Nat) : setT (l ++ [v]) = setT l ++ [44, 32] ++ hexT v := by
  cases l with
  | nil => exact absurd rfl h
  | cons a r => simp only [List.cons_append, setT, tail_snoc r v, List.append_assoc, List.nil_append]
theorem sep44 {r : List UInt8} : L.Sep (44 :: 32 :: r) := .inr ⟨44, _, rfl, by decide, by simp⟩
theorem lx_tail {u : List UInt8} {ts : List Key} (hu : Lx u ts) (hs : L.Sep u) : ∀ vs : List Nat, (∀ v ∈ vs, v < 4294967296) → Lx (tailT vs ++ u) (tailK vs ++ ts) ∧ L.Sep (tailT vs ++ u)
  | [], _ => ⟨hu, hs⟩
  | v :: r, hv => by
    have ih := lx_tail hu hs r fun x hx => hv x (List.mem_cons_of_mem _ hx)
    have h1 : Lx (hexT v ++ (tailT r ++ u)) ((2, hexT v, (v : Int)) :: (tailK r ++ ts)) := Lx.hex (by have := hv v List.mem_cons_self; omega) ih.2 ih.1
    refine ⟨?_, sep44⟩
    have e : tailT (v :: r) ++ u = 44 :: 32 :: (hexT v ++ (tailT r ++ u)) := by simp only [tailT, List.cons_append, List.append_assoc]
    rw [e]
    exact Lx.op (c := 44) (by decide) rfl (Lx.sp h1)
theorem sep125 : L.Sep [125] := .inr ⟨125, [], rfl, by decide, by simp⟩
theorem sep125b : L.Sep [125, 41] := .inr ⟨125, [41], rfl, by decide, by simp⟩
def opW (o : Nat) : List UInt8 := if o = 1 then [61, 61] else [33, 61]
def regT : List UInt8 := [114, 101, 103, 49]
/-- `reg1 == {..}` -/
def cmpT (o : Nat) (vs : List Nat) (u : List UInt8) : List UInt8 := regT ++ (32 :: (opW o ++ (32 :: 123 :: (setT vs ++ u))))
def cmpK (o : Nat) (v : Nat) (r : List Nat) (ts : List Key) : List Key := (1, regT, 0) :: (5, opW o, 0) :: (5, [123], 0) :: (2, hexT v, (v : Int)) :: (tailK r ++ ts)
theorem lx_cmp {u : List UInt8} {ts : List Key} (hu : Lx u ts) (hs : L.Sep u) {v : Nat} {r : List Nat} (hv : ∀ x ∈ v :: r, x < 4294967296) (o : Nat) : Lx (cmpT o (v :: r) u) (cmpK o v r ts) := by
  have ht := lx_tail hu hs r fun x hx => hv x (List.mem_cons_of_mem _ hx)
  have h1 : Lx (hexT v ++ (tailT r ++ u)) ((2, hexT v, (v : Int)) :: (tailK r ++ ts)) := Lx.hex (by have := hv v List.mem_cons_self; omega) ht.2 ht.1
  have h2 : Lx (123 :: (hexT v ++ (tailT r ++ u))) ((5, [123], 0) :: (2, hexT v, (v : Int)) :: (tailK r ++ ts)) := Lx.op (c := 123) (by decide) rfl h1
  have h3 : Lx (opW o ++ (32 :: 123 :: (hexT v ++ (tailT r ++ u)))) ((5, opW o, 0) :: (5, [123], 0) :: (2, hexT v, (v : Int)) :: (tailK r ++ ts)) :=
    Lx.ops (by unfold opW; split <;> decide) (by unfold opW; split <;> simp) (.inr ⟨32, _, rfl, by decide, by simp⟩) (Lx.sp h2)
  have e : cmpT o (v :: r) u = 114 :: [101, 103, 49] ++ (32 :: (opW o ++ (32 :: 123 :: (hexT v ++ (tailT r ++ u))))) := by simp only [cmpT, regT, setT, List.append_assoc, List.cons_append, List.nil_append]
  rw [e]
  exact Lx.name (by decide) (by decide) (.inr ⟨32, _, rfl, by decide, by unfold opW; split <;> simp⟩) (Lx.sp h3)
theorem lx_not {u : List UInt8} {ts : List Key} (hu : Lx (114 :: u) ts) : Lx (33 :: 40 :: 114 :: u) ((5, [33], 0) :: (5, [40], 0) :: ts) :=
  Lx.op (c := 33) (by decide) rfl (Lx.op (c := 40) (by decide) rfl hu)
end Go.Proofs.YtklcmgodhpediaaGreatDoor.K
/- What sets are read to. -/
set_option linter.unusedSimpArgs false
set_option linter.unusedVariables false
set_option maxRecDepth 100000
namespace Go.Proofs.YtklcmgodhpediaaGreatDoor.K
open Go Go.Vm Go.Proofs Go.Proofs.YtklcmgodhpediaaGreatDoor

theorem all26 : allN 26 = 4294967295 := by decide
/-- The expression of a set. -/
def setE (o : Int) (kd : Int) (v : Nat) (r : List Nat) : E := jr kd (isE 26 o v 4294967295) (r.map fun x => isE 26 o (x : Nat) 4294967295)
theorem set_z (o kd : Int) (v : Nat) (r : List Nat) : (setE o kd v r).z = false := jr_z rfl
theorem kpN {o d : Int} (ho : o ≤ 2) {v : Nat} (hv : v < 4294967296) {tx ty : List UInt8} {a k nv av : Int} {l : List L.Tok} (hk : ¬ (k = 5 ∧ ty = [47])) : KP 26 o d (⟨2, tx, (v : Int), a⟩ :: ⟨k, ty, nv, av⟩ :: l) (⟨k, ty, nv, av⟩ :: l) (isE 26 o v 4294967295) := by
  intro H n b hb hl
  have := constN' (H := H) (n := n) (b := b) (f := 26) (o := o) (by omega) (by omega) ho hb hl (by rw [all26]; omega) hk
  rw [all26] at this
  exact this
theorem set_jt {o d : Int} (ho : o ≤ 2) {ts : List Key} : ∀ (r : List Nat) (l : List L.Tok), (∀ v ∈ r, v < 4294967296) → l.map key = tailK r ++ (5, [125], 0) :: ts →
    ∃ a l', l'.map key = ts ∧ Jt [44] (fun l l' e => KP 26 o d l l' e ∧ e.z = false) l (⟨5, [125], 0, a⟩ :: l') (r.map fun x => isE 26 o (x : Nat) 4294967295)
  | [], l, _, h => by
    obtain ⟨a, l', rfl, h2⟩ := key_cons h
    exact ⟨a, l', h2, .stop (by rintro ⟨_, h⟩; revert h; decide)⟩
  | v :: r, l, hv, h => by
    simp only [tailK, List.cons_append] at h
    obtain ⟨a1, l1, rfl, h2⟩ := key_cons h
    obtain ⟨a2, l2, rfl, h3⟩ := key_cons h2
    obtain ⟨a, l', h4, h5⟩ := set_jt ho r l2 (fun x hx => hv x (List.mem_cons_of_mem _ hx)) h3
    refine ⟨a, l', h4, ?_⟩
    have hn : ∃ k ty nv av l3, l2 = ⟨k, ty, nv, av⟩ :: l3 ∧ ¬ (k = 5 ∧ ty = [47]) := by
      cases r with
      | nil =>
        obtain ⟨a3, l3, rfl, _⟩ := key_cons h3
        exact ⟨_, _, _, _, _, rfl, by rintro ⟨_, h⟩; revert h; decide⟩
      | cons w r =>
        simp only [tailK, List.cons_append] at h3
        obtain ⟨a3, l3, rfl, _⟩ := key_cons h3
        exact ⟨_, _, _, _, _, rfl, by rintro ⟨_, h⟩; revert h; decide⟩
    obtain ⟨k, ty, nv, av, l3, rfl, hk⟩ := hn
    exact .more (e := isE 26 o (v : Nat) 4294967295) ⟨kpN ho (hv v List.mem_cons_self) hk, rfl⟩ rfl h5
theorem cmp_parts {d : Int} {o : Nat} (ho : o = 1 ∨ o = 2) {v : Nat} {r : List Nat} (hv : ∀ x ∈ v :: r, x < 4294967296) (hlen : r.length ≤ 1099511627776) {ts : List Key} {l : List L.Tok} (h : l.map key = cmpK o v r ((5, [125], 0) :: ts)) :
    ∃ l', l'.map key = ts ∧ PS 84 d l l' (setE o (if o = 1 then 6 else 5) v r) := by
  unfold cmpK at h
  obtain ⟨a1, l1, rfl, h1⟩ := key_cons h
  obtain ⟨a2, l2, rfl, h2⟩ := key_cons h1
  obtain ⟨a3, l3, rfl, h3⟩ := key_cons h2
  obtain ⟨a4, l4, rfl, h4⟩ := key_cons h3
  obtain ⟨a5, l5, h5, hj⟩ := set_jt (o := (o : Int)) (d := d) (by omega) r l4 (fun x hx => hv x (List.mem_cons_of_mem _ hx)) h4
  refine ⟨l5, h5, partCmp (f := 26) (set_z _ _ _ _) (fun st => rt (wordR st)) (fun st => rt (findR st)) fun H n b hb hl => ?_⟩
  have hn : ∃ k ty nv av l6, l4 = ⟨k, ty, nv, av⟩ :: l6 ∧ ¬ (k = 5 ∧ ty = [47]) := by
    cases r with
    | nil =>
      obtain ⟨a3, l3, rfl, _⟩ := key_cons h4
      exact ⟨_, _, _, _, _, rfl, by rintro ⟨_, h⟩; revert h; decide⟩
    | cons w r =>
      simp only [tailK, List.cons_append] at h4
      obtain ⟨a3, l3, rfl, _⟩ := key_cons h4
      exact ⟨_, _, _, _, _, rfl, by rintro ⟨_, h⟩; revert h; decide⟩
  obtain ⟨k, ty, nv, av, l6, rfl, hk⟩ := hn
  have hkp : KP 26 (o : Int) d _ _ (isE 26 (o : Int) (v : Nat) 4294967295) := kpN (d := d) (tx := hexT v) (a := a4) (l := l6) (av := av) (nv := nv) (by omega) (hv v List.mem_cons_self) hk
  rcases ho with rfl | rfl
  · exact (setEq (f := 26) (by rfl) hb hl hkp rfl hj (by simpa using hlen)).low (lowE _) (hl.set lowRd)
  · exact (setNe (f := 26) (by rfl) hb hl hkp rfl hj (by simpa using hlen)).low (lowE _) (hl.set lowRd)
/-- A part alone is an and, and an or. -/
theorem lone {d : Int} {l l' : List L.Tok} {e : E} (hp : PS 84 d l l' e) (hz : e.z = false) (hn : ∃ k tx nu a r, l' = ⟨k, tx, nu, a⟩ :: r ∧ ¬ (k = 5 ∧ tx = [38, 38]) ∧ ¬ (k = 5 ∧ tx = [124, 124])) : PS 27 d l l' e := by
  obtain ⟨k, tx, nu, a, r, rfl, h1, h2⟩ := hn
  exact orS (es := []) (andS (es := []) hp hz (.stop h1) (by simp)) hz (.stop h2) (by simp)
theorem parse_cmp {o : Nat} (ho : o = 1 ∨ o = 2) {v : Nat} {r : List Nat} (hv : ∀ x ∈ v :: r, x < 4294967296) (hlen : (cmpT o (v :: r) [125]).length ≤ 4096) (hr : r.length ≤ 1000) (st : St) :
    FnS YtklcmgodhpediaaGreatDoor.cx 13 [.str (cmpT o (v :: r) [125]), .sl .full []] st (.tup [(setE o (if o = 1 then 6 else 5) v r).c, .int .i64 0, .int .i64 0]) st := by
  obtain ⟨l, h1, h2⟩ := (lx_cmp (o := o) (Lx.op (c := 125) (by decide) rfl Lx.nil) sep125 hv).lexA hlen
  obtain ⟨l', h3, h4⟩ := cmp_parts (d := 0) ho hv (by omega) h2
  obtain ⟨a, l5, rfl, h5⟩ := key_cons h3
  obtain rfl : l5 = [] := by simpa using h5
  exact tr (parseS (by omega) h1 (lone h4 (set_z _ _ _ _) ⟨_, _, _, _, _, rfl, by decide, by decide⟩) (set_z _ _ _ _) st)
theorem parse_not {v : Nat} {r : List Nat} (hv : ∀ x ∈ v :: r, x < 4294967296) (hlen : (33 :: 40 :: cmpT 1 (v :: r) [125, 41]).length ≤ 4096) (hr : r.length ≤ 1000) (st : St) :
    FnS YtklcmgodhpediaaGreatDoor.cx 13 [.str (33 :: 40 :: cmpT 1 (v :: r) [125, 41]), .sl .full []] st (.tup [(E.mk 4 0 0 0 0 false [setE 1 6 v r]).c, .int .i64 0, .int .i64 0]) st := by
  obtain ⟨l, h1, h2⟩ := (lx_not (lx_cmp (o := 1) (Lx.op (c := 125) (by decide) rfl (Lx.op (c := 41) (by decide) rfl Lx.nil)) sep125b hv)).lexA hlen
  obtain ⟨a1, l1, rfl, h3⟩ := key_cons h2
  obtain ⟨a2, l2, rfl, h4⟩ := key_cons h3
  obtain ⟨l3, h5, h6⟩ := cmp_parts (d := 0 + 1 + 1) (o := 1) (.inl rfl) hv (by omega) h4
  obtain ⟨a3, l4, rfl, h7⟩ := key_cons h5
  obtain ⟨a4, l5, rfl, h8⟩ := key_cons h7
  obtain rfl : l5 = [] := by simpa using h8
  have hb := partBr (d := 0 + 1) (nu := 0) (a := a2) (by omega) (lone h6 (set_z _ _ _ _) ⟨_, _, _, _, _, rfl, by decide, by decide⟩) (set_z _ _ _ _)
  have hn := partNot (d := 0) (nu := 0) (a := a1) (by omega) hb (set_z _ _ _ _)
  exact tr (parseS (Nat.le_trans hlen (by decide)) h1 (lone hn rfl ⟨_, _, _, _, _, rfl, by decide, by decide⟩) rfl st)

/-! What sets say of a State. -/
section
variable {Hh : Int → Bool} {R : Int → Int}
theorem and_all {x : Int} (h0 : 0 ≤ x) (h1 : x < 4294967296) : and64 x 4294967295 = x := by
  unfold and64
  rw [BitVec.toNat_and, BitVec.toNat_ofInt, BitVec.toNat_ofInt]
  have e1 : ((4294967295 : Int) % ((2 ^ 64 : Nat) : Int)).toNat = 2 ^ 32 - 1 := by decide
  rw [e1, Nat.and_two_pow_sub_one_eq_mod]
  have e2 : (x % ((2 ^ 64 : Nat) : Int)).toNat = x.toNat := by
    have : x % ((2 ^ 64 : Nat) : Int) = x := Int.emod_eq_of_lt h0 (by have : ((2 ^ 64 : Nat) : Int) = 18446744073709551616 := by decide
                                                                      omega)
    rw [this]
  rw [e2, Nat.mod_eq_of_lt (by omega)]
  show IntKind.u64.wrap _ = _
  rw [wU64]; omega
theorem is_ok {o : Int} (ho : 1 ≤ o ∧ o ≤ 6) {v : Nat} (hv : v < 4294967296) {d : Int} (hd : d ≤ 64) : okE d (isE 26 o (v : Nat) 4294967295) = true := by
  refine okE_mk hd (node3.2 ⟨rfl, by omega, by omega, ho.1, ho.2, by omega, by rw [all26]; omega, ?_, .inr all26.symm⟩) (fun q hq => by cases hq)
  unfold andn
  have e1 : (BitVec.ofInt IntKind.u64.bits ((v : Nat) : Int) &&& ~~~ BitVec.ofInt IntKind.u64.bits 4294967295) = 0#64 := by
    show (BitVec.ofInt 64 ((v : Nat) : Int) &&& ~~~ BitVec.ofInt 64 4294967295) = 0#64
    apply BitVec.eq_of_getLsbD_eq
    intro i hi
    simp only [BitVec.getLsbD_and, BitVec.getLsbD_not, BitVec.getLsbD_zero, BitVec.ofInt_natCast, BitVec.getLsbD_ofNat]
    have h2 : BitVec.ofInt 64 4294967295 = BitVec.ofNat 64 (2 ^ 32 - 1) := by decide
    rw [h2, BitVec.getLsbD_ofNat, Nat.testBit_two_pow_sub_one]
    by_cases h : i < 32
    · simp [h, hi]
    · have : v.testBit i = false := Nat.testBit_lt_two_pow (Nat.lt_of_lt_of_le hv (by
        have : (4294967296 : Nat) = 2 ^ 32 := by decide
        rw [this]; exact Nat.pow_le_pow_right (by omega) (by omega)))
      simp [this]
  rw [e1]; rfl
theorem set_ok {o kd : Int} (ho : 1 ≤ o ∧ o ≤ 6) (hk : kd = 5 ∨ kd = 6) {v : Nat} {r : List Nat} (hv : ∀ x ∈ v :: r, x < 4294967296) {d : Int} (hd : d ≤ 63) : okE d (setE o kd v r) = true := by
  unfold setE
  cases r with
  | nil => exact is_ok ho (hv v List.mem_cons_self) (by omega)
  | cons w r =>
    refine okE_mk (by omega) ?_ ?_
    · exact .inr (.inr (.inl ⟨hk, ⟨rfl, rfl, rfl, rfl⟩, by simp⟩))
    · intro q hq
      simp only [List.map_cons, List.mem_cons, List.mem_map] at hq
      rcases hq with rfl | rfl | ⟨x, hx, rfl⟩
      · exact is_ok ho (hv v List.mem_cons_self) (by omega)
      · exact is_ok ho (hv w (by simp)) (by omega)
      · exact is_ok ho (hv x (by simp [hx])) (by omega)
theorem is_holds {o : Int} {v : Nat} (h26 : Hh 26 = true) (h0 : 0 ≤ R 26) (h1 : R 26 < 4294967296) : holdsR Hh R (isE 26 o (v : Nat) 4294967295) false = decide (soP o (R 26) v) := by
  unfold isE
  rw [holdsR, if_neg (by decide), if_neg (by decide), if_pos rfl, h26, and_all h0 h1]
  cases decide (soP o (R 26) v) <;> rfl
theorem set_holds1 (h26 : Hh 26 = true) (h0 : 0 ≤ R 26) (h1 : R 26 < 4294967296) (v : Nat) (r : List Nat) : holdsR Hh R (setE 1 6 v r) false = (v :: r).any fun x => decide (R 26 = x) := by
  have e : ∀ x : Nat, decide (soP 1 (R 26) x) = decide (R 26 = x) := fun x => by unfold soP; simp
  unfold setE
  cases r with
  | nil => simp only [List.map_nil, jr, is_holds h26 h0 h1, e, List.any_cons, List.any_nil, Bool.or_false]
  | cons w r =>
    simp only [List.map_cons, jr]
    rw [holdsR, if_neg (by decide), if_neg (by decide), if_neg (by decide), if_neg (by decide)]
    have ha : allR2 Hh R (isE 26 1 (v : Nat) 4294967295 :: isE 26 1 (w : Nat) 4294967295 :: r.map fun x => isE 26 1 (x : Nat) 4294967295) false false = !((v :: w :: r).any fun x => decide (R 26 = x)) := by
      apply bool_iff
      rw [allR2_iff]
      simp only [List.mem_cons, List.mem_map, List.any_cons, Bool.not_eq_true', Bool.or_eq_false_iff, List.any_eq_false, decide_eq_true_eq, decide_eq_false_iff_not]
      constructor
      · intro h
        have h2 := fun x hx => h (isE 26 1 (x : Nat) 4294967295) hx
        simp only [is_holds h26 h0 h1, e, decide_eq_false_iff_not] at h2
        exact ⟨h2 v (.inl rfl), h2 w (.inr (.inl rfl)), fun x hx => h2 x (.inr (.inr ⟨x, hx, rfl⟩))⟩
      · rintro ⟨ha, hb, hc⟩ q (rfl | rfl | ⟨x, hx, rfl⟩)
        · rw [is_holds h26 h0 h1, e]; simpa using ha
        · rw [is_holds h26 h0 h1, e]; simpa using hb
        · rw [is_holds h26 h0 h1, e]; simpa using hc x hx
    have e6 : (!(decide ((6 : Int) = 5) == false)) = false := by decide
    rw [e6, ha]
    cases (v :: w :: r).any fun x => decide (R 26 = x) <;> rfl
theorem set_holds2 (h26 : Hh 26 = true) (h0 : 0 ≤ R 26) (h1 : R 26 < 4294967296) (v : Nat) (r : List Nat) : holdsR Hh R (setE 2 5 v r) false = !((v :: r).any fun x => decide (R 26 = x)) := by
  have e : ∀ x : Nat, decide (soP 2 (R 26) x) = !decide (R 26 = x) := fun x => by unfold soP; simp
  unfold setE
  cases r with
  | nil => simp only [List.map_nil, jr, is_holds h26 h0 h1, e, List.any_cons, List.any_nil, Bool.or_false]
  | cons w r =>
    simp only [List.map_cons, jr]
    rw [holdsR, if_neg (by decide), if_neg (by decide), if_neg (by decide), if_neg (by decide)]
    have ha : allR2 Hh R (isE 26 2 (v : Nat) 4294967295 :: isE 26 2 (w : Nat) 4294967295 :: r.map fun x => isE 26 2 (x : Nat) 4294967295) false true = !((v :: w :: r).any fun x => decide (R 26 = x)) := by
      apply bool_iff
      rw [allR2_iff]
      simp only [List.mem_cons, List.mem_map, List.any_cons, Bool.not_eq_true', Bool.or_eq_false_iff, List.any_eq_false, decide_eq_true_eq, decide_eq_false_iff_not]
      constructor
      · intro h
        have h2 := fun x hx => h (isE 26 2 (x : Nat) 4294967295) hx
        simp only [is_holds h26 h0 h1, e, Bool.not_eq_true', decide_eq_false_iff_not] at h2
        exact ⟨h2 v (.inl rfl), h2 w (.inr (.inl rfl)), fun x hx => h2 x (.inr (.inr ⟨x, hx, rfl⟩))⟩
      · rintro ⟨ha, hb, hc⟩ q (rfl | rfl | ⟨x, hx, rfl⟩)
        · rw [is_holds h26 h0 h1, e]; simpa using ha
        · rw [is_holds h26 h0 h1, e]; simpa using hb
        · rw [is_holds h26 h0 h1, e]; simpa using hc x hx
    have e6 : (!(decide ((5 : Int) = 5) == false)) = true := by decide
    rw [e6, ha]
    cases (v :: w :: r).any fun x => decide (R 26 = x) <;> rfl
end
end Go.Proofs.YtklcmgodhpediaaGreatDoor.K
/- The law's own numbers as texts. -/
set_option linter.unusedSimpArgs false
set_option linter.unusedVariables false
set_option maxRecDepth 100000
namespace Go.Proofs.YtklcmgodhpediaaGreatDoor.K
open Go Go.Vm Go.Proofs Go.Proofs.YtklcmgodhpediaaGreatDoor

theorem dig16 : ∀ m : Fin 16, List.drop m.val (List.take (m.val + 1) ([48, 49, 50, 51, 52, 53, 54, 55, 56, 57, 97, 98, 99, 100, 101, 102] : List UInt8)) = [L.hexD m.val] := by decide +kernel
theorem digR (x : Nat) : List.drop (x % 16) (48 :: List.take (x % 16) ([49, 50, 51, 52, 53, 54, 55, 56, 57, 97, 98, 99, 100, 101, 102] : List UInt8)) = [L.hexD (x % 16)] := dig16 ⟨x % 16, Nat.mod_lt _ (by decide)⟩

set_option maxHeartbeats 4000000 in
theorem hexS (v : Nat) (hv : v < 4294967296) (st : St) : FnS cx 15 [.int .u32 (v : Nat)] st (.str (hexT v)) st := by
  refine goP Tryz.func15 rfl rfl rfl rfl ?_ ?_
  · rfl
  intro t ht
  have a0 : tget t 0 = .int .u32 (v : Nat) := ht 0 _ rfl
  clear ht
  have ex := And.intro @a0 @hpB
  repeat' (first
   | (with_reducible refine isO ?_); first
     | refine mvA (h := ?_)
     | refine asA (h := ?_)
     | refine quA (h := ?_)
   | (with_reducible refine isC ?_); first
     | refine ctA (h := ?_)
     | refine cfA (h := ?_)
     | refine cdA (h1 := fun _ => ?_) (h0 := fun _ => ?_)
     | refine cbA (h1 := fun _ => ?_) (h0 := fun _ => ?_)
   | with_reducible refine Ev.seq ?_
   | with_reducible refine Ev.ops ?_
   | with_reducible refine NxE ?_
   | with_reducible refine BxN ?_
   | with_reducible refine BxX ?_
   | with_reducible refine NxX ?_
   | with_reducible refine NxR ?_
   | with_reducible refine BxR ?_
   | with_reducible refine NxG ?_
   | with_reducible refine BxG ?_
   | with_reducible refine GxR ?_
   | with_reducible refine GxN ?_
   | with_reducible refine GxX ?_
   | with_reducible refine Ev.goto ?_
   | with_reducible refine Ev.block ?_
   | with_reducible refine Ev.skip ?_
   | with_reducible refine Ev.exit ?_
   | with_reducible refine Ev.ret ?_
   | with_reducible refine Ev.label ?_
   | with_reducible refine EvOps.nil ?_
   | with_reducible refine EvPlan.nil ?_
   | (with_reducible refine BxO ?_ ?_; · decide)
   )
  refine loopT (fun r t st => ∃ (x : Nat) (w : List UInt8), r = x ∧ x < 4294967296 ∧ L.hexDigits v = L.hexDigits x ++ w ∧ tget t 0 = .int .u32 (x : Nat) ∧ tget t 3 = .str w ∧ st = ⟨[], 0⟩) (n := v) ?_ ?_
  · refine ⟨v, [], rfl, hv, by simp, ?_, ?_, rfl⟩
    · simp only [↓evP, ↓tgP, ↓reduceIte, Nat.reduceEqDiff, reduceCtorEq, List.map_cons, List.map_nil, List.nil_append, List.append_nil, List.toList_toArray, a0]
    · simp only [↓evP, ↓tgP, ↓reduceIte, Nat.reduceEqDiff, reduceCtorEq, List.map_cons, List.map_nil, List.nil_append, List.append_nil, List.toList_toArray, a0]
  clear a0
  rintro r t st ⟨x, w, hr, hx, hw, a0, a3, rfl⟩
  have e1 : (x : Int) % 16 = ((x % 16 : Nat) : Int) := by omega
  have e2 : (x : Int) / 16 = ((x / 16 : Nat) : Int) := by omega
  have e3 : (x % 16 : Nat) < 16 := Nat.mod_lt _ (by decide)
  have e4 : ((x % 16 : Nat) : Int) + 1 = ((x % 16 + 1 : Nat) : Int) := by omega
  have e5 := digR x
  have e6 := L.hexU_length v 7 (by omega)
  rw [hw, List.length_append] at e6
  have e7 : w.length ≤ 8 := by omega
  have e8 : w.length + 1 ≤ 9 := by omega
  have ex := And.intro @a0 (And.intro @a3 (And.intro @hpB (And.intro @e1 (And.intro @e2 (And.intro @e4 @e5)))))
  repeat' (first
   | (with_reducible refine isO ?_); first
     | refine mvA (h := ?_)
     | refine asA (h := ?_)
     | refine quA (h := ?_)
   | (with_reducible refine isC ?_); first
     | refine ctA (h := ?_)
     | refine cfA (h := ?_)
     | refine cdA (h1 := fun _ => ?_) (h0 := fun _ => ?_)
     | refine cbA (h1 := fun _ => ?_) (h0 := fun _ => ?_)
   | with_reducible refine Ev.seq ?_
   | with_reducible refine Ev.ops ?_
   | with_reducible refine NxE ?_
   | with_reducible refine BxN ?_
   | with_reducible refine BxX ?_
   | with_reducible refine NxX ?_
   | with_reducible refine NxR ?_
   | with_reducible refine BxR ?_
   | with_reducible refine NxG ?_
   | with_reducible refine BxG ?_
   | with_reducible refine GxR ?_
   | with_reducible refine GxN ?_
   | with_reducible refine GxX ?_
   | with_reducible refine Ev.goto ?_
   | with_reducible refine Ev.block ?_
   | with_reducible refine Ev.skip ?_
   | with_reducible refine Ev.exit ?_
   | with_reducible refine Ev.ret ?_
   | with_reducible refine Ev.label ?_
   | with_reducible refine EvOps.nil ?_
   | with_reducible refine EvPlan.nil ?_
   | (with_reducible refine BxO ?_ ?_; · decide)
   )
  · rename_i h0
    have hx16 : x < 16 := by omega
    refine lfA (rl := [.tmp 2]) rfl (hv := by
      simp only [packV, strip, stripAgg, stripCell, List.map_cons, List.map_nil]
      first
       | (rw [hexT, hw, L.hexU_small hx16, Nat.mod_eq_of_lt hx16]; rfl)
       | rfl) (hp := rfl)
  · rename_i h0
    have hx16 : ¬ x < 16 := by omega
    refine ⟨x / 16, by omega, rfl, x / 16, L.hexD (x % 16) :: w, rfl, by omega, ?_, ?_, ?_, rfl⟩
    · rw [hw, L.hexU_big hx16, List.append_assoc]; rfl
    · simp only [↓evP, ↓tgP, ↓reduceIte, Nat.reduceEqDiff, reduceCtorEq, List.map_cons, List.map_nil, List.nil_append, List.append_nil, List.toList_toArray, a0]
    · simp only [↓evP, ↓tgP, ↓reduceIte, Nat.reduceEqDiff, reduceCtorEq, List.map_cons, List.map_nil, List.nil_append, List.append_nil, List.toList_toArray, a3]
end Go.Proofs.YtklcmgodhpediaaGreatDoor.K
