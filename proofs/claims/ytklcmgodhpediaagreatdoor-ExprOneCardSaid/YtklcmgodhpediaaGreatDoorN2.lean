/- How the evaluator's values and heap stand to the model's values and memory. -/
import Derived.Test.YtklcmgodhpediaaGreatDoorN1
import Derived.Below
import Derived.Defers
set_option linter.unusedSimpArgs false
set_option linter.unusedVariables false
namespace Go.Vm
open Go Go.RowKit

/-- Which block a name stands for; of a tip: its end, the block's size, an element's size; and the cells that never change any more. -/
structure Ghost where
  κ : Nat → Option Nat
  θ : Nat → Option (Nat × Nat × Nat)
  st : Nat → Nat → Option Value

structure Ghost.le (g g' : Ghost) : Prop where
  κ : ∀ i B, g.κ i = some B → g'.κ i = some B
  θ : ∀ i x, g.θ i = some x → g'.θ i = some x
  st : ∀ B o v, g.st B o = some v → g'.st B o = some v

theorem Ghost.le.refl (g : Ghost) : g.le g := ⟨fun _ _ h => h, fun _ _ h => h, fun _ _ _ h => h⟩
theorem Ghost.le.trans {a b c : Ghost} (h : a.le b) (k : b.le c) : a.le c :=
  ⟨fun i B x => k.κ i B (h.κ i B x), fun i B x => k.θ i B (h.θ i B x), fun B o v x => k.st B o v (h.st B o v x)⟩

/-- Cells that never change: from a place on these values. -/
def Ghost.row (g : Ghost) (B o : Nat) (vs : List Value) : Prop := ∀ i v, vs[i]? = some v → g.st B (o + i) = some v

theorem Ghost.row.mono {g g' : Ghost} (h : g.le g') {B o : Nat} {vs : List Value} (r : g.row B o vs) : g'.row B o vs :=
  fun i v hv => h.st _ _ _ (r i v hv)

/-- What a slice's tip says. -/
def TipR (g : Ghost) (tip : Tip) (a : Option Addr) (len cap S : Nat) : Prop :=
  match tip with
  | .none => True
  | .full => cap = len
  | .own t => ∃ B o, a = some ⟨B, o, none⟩ ∧ g.κ t = some B ∧ g.θ t = some (o + len * S, o + cap * S, S)

theorem TipR.mono {g g' : Ghost} (h : g.le g') {tip : Tip} {a : Option Addr} {len cap S : Nat} (r : TipR g tip a len cap S) : TipR g' tip a len cap S := by
  cases tip with
  | none => trivial
  | full => exact r
  | own t => obtain ⟨B, o, h1, h2, h3⟩ := r; exact ⟨B, o, h1, h.κ _ _ h2, h.θ _ _ h3⟩

/-- What is known of the room of a slice that may be written. -/
def CapR (g : Ghost) (b off cap cap' : Nat) : Prop := (cap = cap' ∧ cap < unk) ∨ cap = unk ∨ ∃ S, cap = ownC S ∧ ∃ e, g.θ b = some (e, off + cap' * S, S)
theorem CapR.mono {g g' : Ghost} (h : g.le g') {b off cap cap' : Nat} (r : CapR g b off cap cap') : CapR g' b off cap cap' := by
  rcases r with r | r | ⟨S, r, e, h1⟩
  · exact .inl r
  · exact .inr (.inl r)
  · exact .inr (.inr ⟨S, r, e, h.θ _ _ h1⟩)

mutual
/-- A value of the evaluator stands for a value of the model. -/
def VR (g : Ghost) : V → Value → Prop
  | .any, _ => True
  | .bool b, v => v = .bool b
  | .int k n, v => v = .int k n
  | .str s, v => v = .string ⟨s.toArray⟩
  | .ptr b off, v => ∃ B, g.κ b = some B ∧ v = .pointer (some ⟨B, off, none⟩)
  | .cptr cs, v => ∃ B o vs, v = .pointer (some ⟨B, o, none⟩) ∧ g.row B o vs ∧ VRs g cs vs
  | .nilptr, v => v = .pointer none
  | .sl tip xs, v => ∃ a cap vs S, v = .slice a xs.length cap ∧ VRe g S xs vs ∧ TipR g tip a xs.length cap S ∧ xs.length ≤ cap ∧ (xs ≠ [] → ∃ B o, a = some ⟨B, o, none⟩ ∧ g.row B o vs)
  | .msl b off len cap, v => ∃ B, g.κ b = some B ∧ ∃ cap', v = .slice (some ⟨B, off, none⟩) len cap' ∧ len ≤ cap' ∧ CapR g b off cap cap'
  | .map b, v => ∃ B, g.κ b = some B ∧ v = .map (some B)
  | .nilmap, v => v = .map none
  | .func fn fi ca, v => ∃ fi' ca', v = .func fn fi' ca' ∧ VRl g fi fi'.toList ∧ VRl g ca ca'.toList
  | .nilfunc, v => v = .nilFunc
  | .iface t x, v => ∃ x', v = .iface t x' ∧ VR g x x'
  | .niliface, v => v = .nilIface
  | .agg cs, v => ∃ vs, v = .agg vs ∧ VRs g cs vs.toList
  | .tup xs, v => ∃ vs, v = .tuple vs ∧ VRl g xs vs.toList
/-- Cells: none of them is a struct's or a tuple's value. -/
def VRs (g : Ghost) : List V → List Value → Prop
  | [], vs => vs = []
  | c :: cs, vs => ∃ v vs', vs = v :: vs' ∧ v.oneCell' = true ∧ VR g c v ∧ VRs g cs vs'
/-- Values. -/
def VRl (g : Ghost) : List V → List Value → Prop
  | [], vs => vs = []
  | c :: cs, vs => ∃ v vs', vs = v :: vs' ∧ VR g c v ∧ VRl g cs vs'
/-- Elements, of S cells each. -/
def VRe (g : Ghost) (S : Nat) : List V → List Value → Prop
  | [], vs => vs = []
  | x :: xs, vs => ∃ ch vs', vs = ch ++ vs' ∧ ch.length = S ∧ ncells x = S ∧
      (match x with
       | .agg cs => VRs g cs ch
       | y => ∃ v, ch = [v] ∧ v.oneCell' = true ∧ VR g y v) ∧ VRe g S xs vs'
end

/-- The cells of one value. -/
def VC (g : Ghost) (x : V) (ch : List Value) : Prop :=
  match x with
  | .agg cs => VRs g cs ch
  | y => ∃ v, ch = [v] ∧ v.oneCell' = true ∧ VR g y v

theorem VRe_cons {g : Ghost} {S : Nat} {x : V} {xs : List V} {vs : List Value} :
    VRe g S (x :: xs) vs ↔ ∃ ch vs', vs = ch ++ vs' ∧ ch.length = S ∧ ncells x = S ∧ VC g x ch ∧ VRe g S xs vs' := by
  cases x <;> exact Iff.rfl


/-! ### More known, less asked -/
mutual
theorem VR.mono {g g' : Ghost} (h : g.le g') : ∀ (v : V) (x : Value), VR g v x → VR g' v x
  | .any, _, _ => trivial
  | .bool _, _, r => r
  | .int _ _, _, r => r
  | .str _, _, r => r
  | .ptr _ _, _, ⟨B, h1, h2⟩ => ⟨B, h.κ _ _ h1, h2⟩
  | .cptr cs, _, ⟨B, o, vs, h1, h2, h3⟩ => ⟨B, o, vs, h1, h2.mono h, VRs.mono h cs vs h3⟩
  | .nilptr, _, r => r
  | .sl _ xs, _, ⟨a, cap, vs, S, h1, h2, h3, h4, h5⟩ => ⟨a, cap, vs, S, h1, VRe.mono h S xs vs h2, h3.mono h, h4, fun hx => let ⟨B, o, h6, h7⟩ := h5 hx; ⟨B, o, h6, h7.mono h⟩⟩
  | .msl _ _ _ _, _, ⟨B, h1, cap', h2, h3, h4⟩ => ⟨B, h.κ _ _ h1, cap', h2, h3, h4.mono h⟩
  | .map _, _, ⟨B, h1, h2⟩ => ⟨B, h.κ _ _ h1, h2⟩
  | .nilmap, _, r => r
  | .func _ fi ca, _, ⟨fi', ca', h1, h2, h3⟩ => ⟨fi', ca', h1, VRl.mono h fi fi'.toList h2, VRl.mono h ca ca'.toList h3⟩
  | .nilfunc, _, r => r
  | .iface _ x, _, ⟨x', h1, h2⟩ => ⟨x', h1, VR.mono h x x' h2⟩
  | .niliface, _, r => r
  | .agg cs, _, ⟨vs, h1, h2⟩ => ⟨vs, h1, VRs.mono h cs vs.toList h2⟩
  | .tup xs, _, ⟨vs, h1, h2⟩ => ⟨vs, h1, VRl.mono h xs vs.toList h2⟩
theorem VRs.mono {g g' : Ghost} (h : g.le g') : ∀ (cs : List V) (vs : List Value), VRs g cs vs → VRs g' cs vs
  | [], _, r => r
  | c :: cs, _, ⟨v, vs', h1, h2, h3, h4⟩ => ⟨v, vs', h1, h2, VR.mono h c v h3, VRs.mono h cs vs' h4⟩
theorem VRl.mono {g g' : Ghost} (h : g.le g') : ∀ (cs : List V) (vs : List Value), VRl g cs vs → VRl g' cs vs
  | [], _, r => r
  | c :: cs, _, ⟨v, vs', h1, h3, h4⟩ => ⟨v, vs', h1, VR.mono h c v h3, VRl.mono h cs vs' h4⟩
theorem VRe.mono {g g' : Ghost} (h : g.le g') (S : Nat) : ∀ (xs : List V) (vs : List Value), VRe g S xs vs → VRe g' S xs vs
  | [], _, r => r
  | x :: xs, vs, r => by
    obtain ⟨ch, vs', h1, h2, h3, h4, h5⟩ := VRe_cons.1 r
    refine VRe_cons.2 ⟨ch, vs', h1, h2, h3, ?_, VRe.mono h S xs vs' h5⟩
    match x, h4 with
    | .agg cs, h4 => exact VRs.mono h cs ch h4
    | .any, ⟨v, a, b, _⟩ => exact ⟨v, a, b, trivial⟩
    | .bool _, ⟨v, a, b, c⟩ => exact ⟨v, a, b, c⟩
    | .int _ _, ⟨v, a, b, c⟩ => exact ⟨v, a, b, c⟩
    | .str _, ⟨v, a, b, c⟩ => exact ⟨v, a, b, c⟩
    | .ptr _ _, ⟨v, a, b, ⟨B, c, d⟩⟩ => exact ⟨v, a, b, ⟨B, h.κ _ _ c, d⟩⟩
    | .cptr cs, ⟨v, a, b, ⟨B, o, ws, c, d, e⟩⟩ => exact ⟨v, a, b, ⟨B, o, ws, c, d.mono h, VRs.mono h cs ws e⟩⟩
    | .nilptr, ⟨v, a, b, c⟩ => exact ⟨v, a, b, c⟩
    | .sl _ ys, ⟨v, a, b, ⟨ad, cap, ws, T, k1, k2, k3, k4, k5⟩⟩ => exact ⟨v, a, b, ⟨ad, cap, ws, T, k1, VRe.mono h T ys ws k2, k3.mono h, k4, fun hx => let ⟨B, o, h6, h7⟩ := k5 hx; ⟨B, o, h6, h7.mono h⟩⟩⟩
    | .msl _ _ _ _, ⟨v, a, b, ⟨B, c, cap', d, e, f⟩⟩ => exact ⟨v, a, b, ⟨B, h.κ _ _ c, cap', d, e, f.mono h⟩⟩
    | .map _, ⟨v, a, b, ⟨B, c, d⟩⟩ => exact ⟨v, a, b, ⟨B, h.κ _ _ c, d⟩⟩
    | .nilmap, ⟨v, a, b, c⟩ => exact ⟨v, a, b, c⟩
    | .func _ fi ca, ⟨v, a, b, ⟨fi', ca', c, d, e⟩⟩ => exact ⟨v, a, b, ⟨fi', ca', c, VRl.mono h fi fi'.toList d, VRl.mono h ca ca'.toList e⟩⟩
    | .nilfunc, ⟨v, a, b, c⟩ => exact ⟨v, a, b, c⟩
    | .iface _ y, ⟨v, a, b, ⟨x', c, d⟩⟩ => exact ⟨v, a, b, ⟨x', c, VR.mono h y x' d⟩⟩
    | .niliface, ⟨v, a, b, c⟩ => exact ⟨v, a, b, c⟩
    | .tup ys, ⟨v, a, b, ⟨ws, c, d⟩⟩ => exact ⟨v, a, b, ⟨ws, c, VRl.mono h ys ws.toList d⟩⟩
end

theorem VC.mono {g g' : Ghost} (h : g.le g') {x : V} {ch : List Value} (r : VC g x ch) : VC g' x ch := by
  cases x <;> simp only [VC] at r ⊢ <;> first
    | exact VRs.mono h _ _ r
    | (obtain ⟨v, a, b, c⟩ := r; exact ⟨v, a, b, VR.mono h _ _ c⟩)

/-! ### Lists of cells -/
theorem VRs.length {g : Ghost} : ∀ {cs : List V} {vs : List Value}, VRs g cs vs → cs.length = vs.length
  | [], vs, h => by simp only [VRs] at h; subst h; rfl
  | c :: cs, vs, h => by simp only [VRs] at h; obtain ⟨v, vs', rfl, _, _, h⟩ := h; simp [VRs.length h]

theorem VRl.length {g : Ghost} : ∀ {cs : List V} {vs : List Value}, VRl g cs vs → cs.length = vs.length
  | [], vs, h => by simp only [VRl] at h; subst h; rfl
  | c :: cs, vs, h => by simp only [VRl] at h; obtain ⟨v, vs', rfl, _, h⟩ := h; simp [VRl.length h]

theorem VRs.one {g : Ghost} : ∀ {cs : List V} {vs : List Value}, VRs g cs vs → ∀ v ∈ vs, v.oneCell' = true
  | [], vs, h, v, hv => by simp only [VRs] at h; subst h; cases hv
  | c :: cs, vs, h, v, hv => by
    simp only [VRs] at h; obtain ⟨u, vs', rfl, h1, _, h⟩ := h
    cases hv with
    | head => exact h1
    | tail _ hv => exact VRs.one h v hv

theorem VRs.get {g : Ghost} : ∀ {cs : List V} {vs : List Value}, VRs g cs vs → ∀ {i : Nat} {c : V}, cs[i]? = some c → ∃ v, vs[i]? = some v ∧ v.oneCell' = true ∧ VR g c v
  | [], _, _, i, c, hc => by simp at hc
  | x :: cs, vs, h, i, c, hc => by
    simp only [VRs] at h; obtain ⟨u, vs', rfl, h1, h2, h⟩ := h
    cases i with
    | zero => simp at hc; subst hc; exact ⟨u, rfl, h1, h2⟩
    | succ i => simp at hc ⊢; exact VRs.get h hc

theorem VRl.get {g : Ghost} : ∀ {cs : List V} {vs : List Value}, VRl g cs vs → ∀ {i : Nat} {c : V}, cs[i]? = some c → ∃ v, vs[i]? = some v ∧ VR g c v
  | [], _, _, i, c, hc => by simp at hc
  | x :: cs, vs, h, i, c, hc => by
    simp only [VRl] at h; obtain ⟨u, vs', rfl, h2, h⟩ := h
    cases i with
    | zero => simp at hc; subst hc; exact ⟨u, rfl, h2⟩
    | succ i => simp at hc ⊢; exact VRl.get h hc

theorem VRs.append {g : Ghost} : ∀ {as : List V} {us : List Value} {bs : List V} {vs : List Value}, VRs g as us → VRs g bs vs → VRs g (as ++ bs) (us ++ vs)
  | [], us, _, _, h, k => by simp only [VRs] at h; subst h; exact k
  | a :: as, us, _, _, h, k => by
    simp only [VRs] at h; obtain ⟨u, us', rfl, h1, h2, h⟩ := h
    simp only [List.cons_append, VRs]; exact ⟨u, _, rfl, h1, h2, VRs.append h k⟩

theorem VRs.take {g : Ghost} : ∀ {as : List V} {us : List Value} (n : Nat), VRs g as us → VRs g (as.take n) (us.take n)
  | [], us, n, h => by simp only [VRs] at h; subst h; simp [VRs]
  | a :: as, us, n, h => by
    simp only [VRs] at h; obtain ⟨u, us', rfl, h1, h2, h⟩ := h
    cases n with
    | zero => simp [VRs]
    | succ n => simp only [List.take_succ_cons, VRs]; exact ⟨u, _, rfl, h1, h2, VRs.take n h⟩

theorem VRs.drop {g : Ghost} : ∀ {as : List V} {us : List Value} (n : Nat), VRs g as us → VRs g (as.drop n) (us.drop n)
  | [], us, n, h => by simp only [VRs] at h; subst h; simp [VRs]
  | a :: as, us, n, h => by
    simp only [VRs] at h; obtain ⟨u, us', rfl, h1, h2, h⟩ := h
    cases n with
    | zero => simp only [List.drop_zero, VRs]; exact ⟨u, _, rfl, h1, h2, h⟩
    | succ n => simp only [List.drop_succ_cons]; exact VRs.drop n h

theorem VRs.putAt {g : Ghost} {as : List V} {us : List Value} {bs : List V} {vs : List Value} (n : Nat) (h : VRs g as us) (k : VRs g bs vs) :
    VRs g (Vm.putAt as n bs) (us.take n ++ vs ++ us.drop (n + vs.length)) := by
  unfold Vm.putAt
  rw [k.length]
  exact ((h.take n).append k).append (h.drop _)

theorem VRe.append {g : Ghost} {S : Nat} : ∀ {as : List V} {us : List Value} {bs : List V} {vs : List Value}, VRe g S as us → VRe g S bs vs → VRe g S (as ++ bs) (us ++ vs)
  | [], us, _, _, h, k => by simp only [VRe] at h; subst h; exact k
  | a :: as, us, bs, vs, h, k => by
    obtain ⟨ch, us', rfl, h1, h2, h3, h4⟩ := VRe_cons.1 h
    exact VRe_cons.2 ⟨ch, us' ++ vs, by simp, h1, h2, h3, VRe.append h4 k⟩

theorem VRe.length {g : Ghost} {S : Nat} : ∀ {xs : List V} {vs : List Value}, VRe g S xs vs → vs.length = xs.length * S
  | [], vs, h => by simp only [VRe] at h; subst h; simp
  | x :: xs, vs, h => by
    obtain ⟨ch, vs', rfl, h1, _, _, h⟩ := VRe_cons.1 h
    rw [List.length_append, h1, VRe.length h, List.length_cons, Nat.add_mul, Nat.one_mul, Nat.add_comm]

theorem VC.one {g : Ghost} {x : V} {ch : List Value} (h : VC g x ch) : ∀ v ∈ ch, v.oneCell' = true := by
  cases x <;> simp only [VC] at h <;> first
    | exact VRs.one h
    | (obtain ⟨v, rfl, h1, _⟩ := h; intro u hu; simp at hu; subst hu; exact h1)

theorem VC.ncells {g : Ghost} {x : V} {ch : List Value} (h : VC g x ch) : ncells x = ch.length := by
  cases x <;> simp only [VC] at h <;> first
    | exact h.length
    | (obtain ⟨v, rfl, _⟩ := h; rfl)

theorem VRe.one {g : Ghost} {S : Nat} : ∀ {xs : List V} {vs : List Value}, VRe g S xs vs → ∀ v ∈ vs, v.oneCell' = true
  | [], vs, h, v, hv => by simp only [VRe] at h; subst h; cases hv
  | x :: xs, vs, h, v, hv => by
    obtain ⟨ch, vs', rfl, _, _, h3, h⟩ := VRe_cons.1 h
    rcases List.mem_append.1 hv with hv | hv
    · exact h3.one v hv
    · exact VRe.one h v hv

/-- Element number i: its cells. -/
theorem VRe.get {g : Ghost} {S : Nat} : ∀ {xs : List V} {vs : List Value}, VRe g S xs vs → ∀ {i : Nat} {x : V}, xs[i]? = some x →
    ncells x = S ∧ VC g x ((vs.drop (i * S)).take S)
  | [], _, _, i, x, hx => by simp at hx
  | y :: xs, vs, h, i, x, hx => by
    obtain ⟨ch, vs', rfl, h1, h2, h3, h⟩ := VRe_cons.1 h
    cases i with
    | zero => simp at hx; subst hx; refine ⟨h2, ?_⟩; rw [Nat.zero_mul, List.drop_zero, List.take_append_of_le_length (by omega), List.take_of_length_le (by omega)]; exact h3
    | succ i =>
      simp at hx
      have := VRe.get h hx
      rw [show (i + 1) * S = ch.length + i * S by rw [h1, Nat.add_mul, Nat.one_mul, Nat.add_comm], List.drop_length_add_append]
      exact this

theorem VRe.drop {g : Ghost} {S : Nat} : ∀ {xs : List V} {vs : List Value} (n : Nat), VRe g S xs vs → VRe g S (xs.drop n) (vs.drop (n * S))
  | [], vs, n, h => by simp only [VRe] at h; subst h; simp [VRe]
  | y :: xs, vs, n, h => by
    cases n with
    | zero => simpa using h
    | succ n =>
      obtain ⟨ch, vs', rfl, h1, h2, h3, h⟩ := VRe_cons.1 h
      rw [show (n + 1) * S = ch.length + n * S by rw [h1, Nat.add_mul, Nat.one_mul, Nat.add_comm], List.drop_length_add_append, List.drop_succ_cons]
      exact VRe.drop n h

theorem VRe.take {g : Ghost} {S : Nat} : ∀ {xs : List V} {vs : List Value} (n : Nat), VRe g S xs vs → VRe g S (xs.take n) (vs.take (n * S))
  | [], vs, n, h => by simp only [VRe] at h; subst h; simp [VRe]
  | y :: xs, vs, n, h => by
    cases n with
    | zero => simp [VRe]
    | succ n =>
      obtain ⟨ch, vs', rfl, h1, h2, h3, h⟩ := VRe_cons.1 h
      rw [show (n + 1) * S = ch.length + n * S by rw [h1, Nat.add_mul, Nat.one_mul, Nat.add_comm], List.take_length_add_append, List.take_succ_cons]
      exact VRe_cons.2 ⟨ch, _, rfl, h1, h2, h3, VRe.take n h⟩

/-- An element's size: as the first one's cells tell it. -/
theorem VRe.size {g : Ghost} {S s : Nat} {xs : List V} {vs : List Value} (h : VRe g S xs vs) (hs : szOk s xs = true) (hne : xs ≠ []) : S = s := by
  cases xs with
  | nil => exact absurd rfl hne
  | cons x xs =>
    obtain ⟨ch, vs', _, _, h2, _, _⟩ := VRe_cons.1 h
    simp only [szOk, beq_iff_eq] at hs
    omega

/-! ### Tips that are forgotten -/
theorem VR.stripCell {g : Ghost} {v : V} {x : Value} (h : VR g v x) : VR g (Vm.stripCell v) x := by
  cases v <;> simp only [Vm.stripCell] <;> first
    | exact h
    | (obtain ⟨a, cap, vs, S, h1, h2, h3, h4, h5⟩ := h; exact ⟨a, cap, vs, S, h1, h2, trivial, h4, h5⟩)

theorem VRs.strip {g : Ghost} : ∀ {cs : List V} {vs : List Value}, VRs g cs vs → VRs g (cs.map Vm.stripCell) vs
  | [], _, h => h
  | c :: cs, vs, h => by
    simp only [VRs] at h; obtain ⟨u, vs', rfl, h1, h2, h⟩ := h
    simp only [List.map_cons, VRs]; exact ⟨u, _, rfl, h1, h2.stripCell, VRs.strip h⟩

theorem VR.stripAgg {g : Ghost} {v : V} {x : Value} (h : VR g v x) : VR g (Vm.stripAgg v) x := by
  cases v <;> first
    | exact h.stripCell
    | (obtain ⟨vs, h1, h2⟩ := h; exact ⟨vs, h1, h2.strip⟩)

theorem VC.stripAgg {g : Ghost} {x : V} {ch : List Value} (h : VC g x ch) : VC g (Vm.stripAgg x) ch := by
  cases x <;> simp only [VC, Vm.stripAgg, Vm.stripCell] at h ⊢ <;> first
    | exact h.strip
    | exact h
    | (obtain ⟨v, h1, h2, h3⟩ := h; exact ⟨v, h1, h2, h3.stripCell⟩)

theorem ncells_stripAgg (x : V) : ncells (Vm.stripAgg x) = ncells x := by
  cases x <;> simp [Vm.stripAgg, Vm.stripCell, Vm.ncells]

theorem VRe.strip {g : Ghost} {S : Nat} : ∀ {xs : List V} {vs : List Value}, VRe g S xs vs → VRe g S (xs.map Vm.stripAgg) vs
  | [], _, h => h
  | x :: xs, vs, h => by
    obtain ⟨ch, vs', h0, h1, h2, h3, h4⟩ := VRe_cons.1 h
    exact VRe_cons.2 ⟨ch, vs', h0, h1, by rw [ncells_stripAgg]; exact h2, h3.stripAgg, VRe.strip h4⟩

theorem VRl.stripAgg {g : Ghost} : ∀ {cs : List V} {vs : List Value}, VRl g cs vs → VRl g (cs.map Vm.stripAgg) vs
  | [], _, h => h
  | c :: cs, vs, h => by
    simp only [VRl] at h; obtain ⟨u, vs', rfl, h2, h⟩ := h
    simp only [List.map_cons, VRl]; exact ⟨u, _, rfl, h2.stripAgg, VRl.stripAgg h⟩

theorem VR.strip {g : Ghost} {v : V} {x : Value} (h : VR g v x) : VR g (Vm.strip v) x := by
  cases v <;> first
    | exact h.stripAgg
    | (obtain ⟨vs, h1, h2⟩ := h; exact ⟨vs, h1, h2.stripAgg⟩)

/-! ### A value and its cells -/
theorem cellsOf_VR {g : Ghost} {v : V} {x : Value} {cs : List V} (h : VR g v x) (hc : cellsOf v = some cs) : VRs g cs x.cells.toList := by
  cases v <;> simp only [Vm.cellsOf, Option.some.injEq, reduceCtorEq] at hc <;> subst hc
  case agg cs => obtain ⟨vs, rfl, h2⟩ := h; exact h2
  case bool b => simp only [VR] at h; subst h; exact ⟨_, [], rfl, rfl, rfl, rfl⟩
  case int k n => simp only [VR] at h; subst h; exact ⟨_, [], rfl, rfl, rfl, rfl⟩
  case str s => simp only [VR] at h; subst h; exact ⟨_, [], rfl, rfl, rfl, rfl⟩
  case ptr b off => obtain ⟨B, h1, rfl⟩ := h; exact ⟨_, [], rfl, rfl, ⟨B, h1, rfl⟩, rfl⟩
  case cptr cs => obtain ⟨B, o, vs, rfl, h1, h2⟩ := h; exact ⟨_, [], rfl, rfl, ⟨B, o, vs, rfl, h1, h2⟩, rfl⟩
  case nilptr => simp only [VR] at h; subst h; exact ⟨_, [], rfl, rfl, rfl, rfl⟩
  case sl tip xs => obtain ⟨a, cap, vs, S, rfl, r⟩ := h; exact ⟨_, [], rfl, rfl, ⟨a, cap, vs, S, rfl, r⟩, rfl⟩
  case msl b off len cap => obtain ⟨B, h1, cap', rfl, h2⟩ := h; exact ⟨_, [], rfl, rfl, ⟨B, h1, cap', rfl, h2⟩, rfl⟩
  case map b => obtain ⟨B, h1, rfl⟩ := h; exact ⟨_, [], rfl, rfl, ⟨B, h1, rfl⟩, rfl⟩
  case nilmap => simp only [VR] at h; subst h; exact ⟨_, [], rfl, rfl, rfl, rfl⟩
  case func fn fi ca => obtain ⟨fi', ca', rfl, r⟩ := h; exact ⟨_, [], rfl, rfl, ⟨fi', ca', rfl, r⟩, rfl⟩
  case nilfunc => simp only [VR] at h; subst h; exact ⟨_, [], rfl, rfl, rfl, rfl⟩
  case iface t y => obtain ⟨x', rfl, r⟩ := h; exact ⟨_, [], rfl, rfl, ⟨x', rfl, r⟩, rfl⟩
  case niliface => simp only [VR] at h; subst h; exact ⟨_, [], rfl, rfl, rfl, rfl⟩

end Go.Vm
