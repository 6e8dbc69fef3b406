/- Texts of sets, their tokens, what they are read to. -/
import Derived.Test.YtklcmgodhpediaaGreatDoorExK9
import Derived.Test.YtklcmgodhpediaaGreatDoorExN0
import Derived.Test.YtklcmgodhpediaaGreatDoorExLP4
import Derived.Test.YtklcmgodhpediaaGreatDoorExSC
set_option linter.unusedSimpArgs false
set_option linter.unusedVariables false
set_option maxRecDepth 100000
namespace Go.Proofs.YtklcmgodhpediaaGreatDoor.K
open Go Go.Vm Go.Proofs Go.Proofs.YtklcmgodhpediaaGreatDoor

/-! Tokens without their places. -/
abbrev Key := Int × List UInt8 × Int
def key (t : L.Tok) : Key := (t.kind, t.text, t.num)
theorem key_cons {l : List L.Tok} {k x : Int} {t : List UInt8} {ts : List Key} (h : l.map key = (k, t, x) :: ts) : ∃ a l', l = ⟨k, t, x, a⟩ :: l' ∧ l'.map key = ts := by
  cases l with
  | nil => cases h
  | cons y r =>
    obtain ⟨k', t', x', a⟩ := y
    simp only [List.map_cons, key, List.cons.injEq, Prod.mk.injEq] at h
    obtain ⟨⟨rfl, rfl, rfl⟩, rfl⟩ := h
    exact ⟨a, r, rfl, rfl⟩
inductive Lx : List UInt8 → List Key → Prop
  | nil : Lx [] [(7, [], 0)]
  | tok {w r t : List UInt8} {k n : Nat} {x : Nat} {ts : List Key} : w ≠ [] → L.stepL (w ++ r) = .tok k w.length t x → Lx r ts → Lx (w ++ r) (((k : Int), t, (x : Int)) :: ts)
  | sp {r : List UInt8} {ts : List Key} : Lx r ts → Lx (32 :: r) ts
theorem Lx.lex {u : List UInt8} {ts : List Key} (h : Lx u ts) : ∀ f a : Nat, u.length < f → ∃ l, L.lexR f u a = .inl l ∧ l.map key = ts := by
  induction h with
  | nil =>
    intro f a hf
    obtain ⟨f, rfl⟩ : ∃ g, f = g + 1 := ⟨f - 1, by omega⟩
    exact ⟨_, rfl, rfl⟩
  | @tok w r t k n x ts h0 hs _ ih =>
    intro f a hf
    obtain ⟨f, rfl⟩ : ∃ g, f = g + 1 := ⟨f - 1, by omega⟩
    have hw : 0 < w.length := List.length_pos_iff.2 h0
    obtain ⟨l, h1, h2⟩ := ih f (a + w.length) (by simp at hf; omega)
    rw [L.lexR_step h0 hs, h1]
    exact ⟨_, rfl, by rw [List.map_cons, h2]; rfl⟩
  | @sp r ts _ ih =>
    intro f a hf
    obtain ⟨f, rfl⟩ : ∃ g, f = g + 1 := ⟨f - 1, by omega⟩
    obtain ⟨l, h1, h2⟩ := ih f (a + 1) (by simp at hf; omega)
    refine ⟨l, ?_, h2⟩
    have e : L.lexR (f + 1) (32 :: r) a = L.lexR f r (a + 1) := by simp only [L.lexR, L.stepU_sp]; rfl
    rw [e]
    exact h1
theorem Lx.lexA {u : List UInt8} {ts : List Key} (h : Lx u ts) (hl : u.length ≤ 4096) : ∃ l, L.lexA u = (l, 0, 0) ∧ l.map key = ts := by
  obtain ⟨l, h1, h2⟩ := h.lex (u.length + 1) 0 (by omega)
  refine ⟨l, ?_, h2⟩
  unfold L.lexA
  rw [if_neg (by omega), h1]
theorem Lx.op {c : UInt8} {r : List UInt8} {ts : List Key} (hc : ¬ (c = 32 ∨ c = 9 ∨ c = 10 ∨ c = 13) ∧ c ≠ 35 ∧ ¬ L.hexP c.toNat ∧ ¬ L.dotP c.toNat ∧ ¬ L.letP c.toNat ∧ c ≠ 34) (ho : L.opT (c :: r) = some [c]) (h : Lx r ts) : Lx (c :: r) ((5, [c], 0) :: ts) :=
  Lx.tok (w := [c]) (r := r) (k := 5) (n := 0) (x := 0) (by simp) (L.step_op (c := c) (r := r) (o := [c]) hc.1 hc.2.1 hc.2.2.1 (L.addrT_no0 hc.2.2.2.1) hc.2.2.2.2.1 hc.2.2.2.2.2 ho) h
theorem Lx.ops {o r : List UInt8} {ts : List Key} (ho : o ∈ L.opsL) (h0 : o ≠ []) (hr : L.Sep r) (h : Lx r ts) : Lx (o ++ r) ((5, o, 0) :: ts) :=
  Lx.tok (w := o) (r := r) (k := 5) (n := 0) (x := 0) h0 (L.op_again ho hr) h
theorem Lx.name {c : UInt8} {w r : List UInt8} {ts : List Key} (hc : L.letP c.toNat) (hw : ∀ d ∈ w, L.nameP d.toNat) (hr : L.Sep r) (h : Lx r ts) : Lx (c :: w ++ r) ((1, c :: w, 0) :: ts) :=
  Lx.tok (w := c :: w) (r := r) (k := 1) (n := 0) (x := 0) (by simp) (L.name_again hc hw hr) h
def hexT (v : Nat) : List UInt8 := 48 :: 120 :: L.hexDigits v
theorem Lx.hex {v : Nat} {r : List UInt8} {ts : List Key} (hv : v < 18446744073709551616) (hr : L.Sep r) (h : Lx r ts) : Lx (hexT v ++ r) ((2, hexT v, (v : Int)) :: ts) :=
  Lx.tok (w := hexT v) (r := r) (k := 2) (n := 0) (x := v) (by simp [hexT]) (L.hex_tok v hv hr) h

/-! Sets. -/
end Go.Proofs.YtklcmgodhpediaaGreatDoor.K
/- What sets are read to. -/
namespace Go.Proofs.YtklcmgodhpediaaGreatDoor.K
open Go Go.Vm Go.Proofs Go.Proofs.YtklcmgodhpediaaGreatDoor

theorem lone {d : Int} {l l' : List L.Tok} {e : E} (hp : PS 84 d l l' e) (hz : e.z = false) (hn : ∃ k tx nu a r, l' = ⟨k, tx, nu, a⟩ :: r ∧ ¬ (k = 5 ∧ tx = [38, 38]) ∧ ¬ (k = 5 ∧ tx = [124, 124])) : PS 27 d l l' e := by
  obtain ⟨k, tx, nu, a, r, rfl, h1, h2⟩ := hn
  exact orS (es := []) (andS (es := []) hp hz (.stop h1) (by simp)) hz (.stop h2) (by simp)
/-! What sets say of a State. -/
section
variable {Hh : Int → Bool} {R : Int → Int}
end
end Go.Proofs.YtklcmgodhpediaaGreatDoor.K
