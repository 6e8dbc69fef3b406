/- What a call has made and nobody knows any more: its names may be given anew. -/
import Derived.Test.YtbooicchghnehaaGreatDoorN22
import Derived.Test.YtbooicchghnehaaGreatDoorN18
import Derived.Maps.RangeRun
import Derived.Defers
set_option linter.unusedSimpArgs false
set_option linter.unusedVariables false
namespace Go.Vm
open Go Go.RowKit

def lowT (n : Nat) : Tip → Bool
  | .own t => decide (t < n)
  | _ => true
mutual
/-- A value knows no names from n on. -/
def lowV (n : Nat) : V → Bool
  | .ptr b _ => decide (b < n)
  | .cptr cs => lowL n cs
  | .sl tip xs => lowT n tip && lowL n xs
  | .msl b _ _ _ => decide (b < n)
  | .map b => decide (b < n)
  | .yield b => decide (b < n)
  | .func _ fi ca => lowL n fi && lowL n ca
  | .iface _ x => lowV n x
  | .agg cs => lowL n cs
  | .tup xs => lowL n xs
  | _ => true
def lowL (n : Nat) : List V → Bool
  | [] => true
  | x :: xs => lowV n x && lowL n xs
end
def lowO (n : Nat) : Ob → Prop
  | .cells cs => lowL n cs = true
  | .map es => ∀ p ∈ es, lowV n p.1 = true ∧ lowV n p.2 = true
  | .pin es _ _ => ∀ p ∈ es, lowV n p.1 = true ∧ lowV n p.2 = true
  | .pin1 es ib => (∀ p ∈ es, lowV n p.1 = true ∧ lowV n p.2 = true) ∧ ib < n
  | .iter mb _ _ => mb < n
  | .iter1 mb _ => mb < n
  | .loop .. => False
  | _ => True
/-- A heap knows no names from n on. -/
def Low (n : Nat) (H : List (Nat × Ob)) : Prop := ∀ p ∈ H, p.1 < n ∧ lowO n p.2

def Ghost.cut (g : Ghost) (n : Nat) : Ghost := { g with κ := fun i => if i < n then g.κ i else none, θ := fun i => if i < n then g.θ i else none }
theorem Ghost.cut_κ {g : Ghost} {n i : Nat} (h : i < n) : (g.cut n).κ i = g.κ i := by simp [Ghost.cut, h]
theorem Ghost.cut_θ {g : Ghost} {n i : Nat} (h : i < n) : (g.cut n).θ i = g.θ i := by simp [Ghost.cut, h]
theorem Ghost.row.cut {g : Ghost} {n B o : Nat} {vs : List Value} (h : g.row B o vs) : (g.cut n).row B o vs := h

theorem TipR.cut {g : Ghost} {n : Nat} {tip : Tip} {a : Option Addr} {len cap S : Nat} (h : lowT n tip = true) (r : TipR g tip a len cap S) : TipR (g.cut n) tip a len cap S := by
  cases tip with
  | none => trivial
  | full => exact r
  | own t =>
    have ht : t < n := by simpa [lowT] using h
    obtain ⟨B, o, h1, h2, h3⟩ := r
    exact ⟨B, o, h1, (Ghost.cut_κ ht).trans h2, (Ghost.cut_θ ht).trans h3⟩

section
variable {g : Ghost} {n : Nat}
mutual
theorem VR.cut : ∀ (v : V) (x : Value), lowV n v = true → VR g v x → VR (g.cut n) v x
  | .any, _, _, _ => trivial
  | .bool _, _, _, r => r
  | .int _ _, _, _, r => r
  | .str _, _, _, r => r
  | .ptr b _, _, l, ⟨B, h1, h2⟩ => ⟨B, (Ghost.cut_κ (by simpa [lowV] using l)).trans h1, h2⟩
  | .cptr cs, _, l, ⟨B, o, vs, h1, h2, h3⟩ => ⟨B, o, vs, h1, h2, VRs.cut cs vs (by simpa [lowV] using l) h3⟩
  | .nilptr, _, _, r => r
  | .sl tip xs, _, l, ⟨a, cap, vs, S, h1, h2, h3, h4, h5⟩ => by
    have l' : lowT n tip = true ∧ lowL n xs = true := by simpa [lowV] using l
    exact ⟨a, cap, vs, S, h1, VRe.cut S xs vs l'.2 h2, h3.cut l'.1, h4, fun hx => let ⟨B, o, h6, h7⟩ := h5 hx; ⟨B, o, h6, h7⟩⟩
  | .msl b _ _ _, _, l, ⟨B, h1, cap', h2, h3, h4⟩ => by
    have hb : b < n := by simpa [lowV] using l
    refine ⟨B, (Ghost.cut_κ hb).trans h1, cap', h2, h3, ?_⟩
    rcases h4 with r | r | ⟨S, r, e, h⟩
    · exact .inl r
    · exact .inr (.inl r)
    · exact .inr (.inr ⟨S, r, e, (Ghost.cut_θ hb).trans h⟩)
  | .map b, _, l, ⟨B, h1, h2⟩ => ⟨B, (Ghost.cut_κ (by simpa [lowV] using l)).trans h1, h2⟩
  | .nilmap, _, _, r => r
  | .func _ fi ca, _, l, ⟨fi', ca', h1, h2, h3⟩ => by
    have l' : lowL n fi = true ∧ lowL n ca = true := by simpa [lowV] using l
    exact ⟨fi', ca', h1, VRl.cut fi fi'.toList l'.1 h2, VRl.cut ca ca'.toList l'.2 h3⟩
  | .nilfunc, _, _, r => r
  | .yield b, _, l, ⟨B, h1, h2⟩ => ⟨B, (Ghost.cut_κ (by simpa [lowV] using l)).trans h1, h2⟩
  | .iface _ x, _, l, ⟨x', h1, h2⟩ => ⟨x', h1, VR.cut x x' (by simpa [lowV] using l) h2⟩
  | .niliface, _, _, r => r
  | .agg cs, _, l, ⟨vs, h1, h2⟩ => ⟨vs, h1, VRs.cut cs vs.toList (by simpa [lowV] using l) h2⟩
  | .tup xs, _, l, ⟨vs, h1, h2⟩ => ⟨vs, h1, VRl.cut xs vs.toList (by simpa [lowV] using l) h2⟩
theorem VRs.cut : ∀ (cs : List V) (vs : List Value), lowL n cs = true → VRs g cs vs → VRs (g.cut n) cs vs
  | [], _, _, r => r
  | c :: cs, _, l, ⟨v, vs', h1, h2, h3, h4⟩ => by
    have l' : lowV n c = true ∧ lowL n cs = true := by simpa [lowL] using l
    exact ⟨v, vs', h1, h2, VR.cut c v l'.1 h3, VRs.cut cs vs' l'.2 h4⟩
theorem VRl.cut : ∀ (cs : List V) (vs : List Value), lowL n cs = true → VRl g cs vs → VRl (g.cut n) cs vs
  | [], _, _, r => r
  | c :: cs, _, l, ⟨v, vs', h1, h3, h4⟩ => by
    have l' : lowV n c = true ∧ lowL n cs = true := by simpa [lowL] using l
    exact ⟨v, vs', h1, VR.cut c v l'.1 h3, VRl.cut cs vs' l'.2 h4⟩
theorem VRe.cut (S : Nat) : ∀ (xs : List V) (vs : List Value), lowL n xs = true → VRe g S xs vs → VRe (g.cut n) S xs vs
  | [], _, _, r => r
  | x :: xs, vs, l, r => by
    have l' : lowV n x = true ∧ lowL n xs = true := by simpa [lowL] using l
    obtain ⟨ch, vs', h1, h2, h3, h4, h5⟩ := VRe_cons.1 r
    refine VRe_cons.2 ⟨ch, vs', h1, h2, h3, ?_, VRe.cut S xs vs' l'.2 h5⟩
    have lx := l'.1
    match x, h4, lx with
    | .agg cs, h4, lx => exact VRs.cut cs ch (by simpa [lowV] using lx) h4
    | .any, ⟨v, a, b, _⟩, _ => exact ⟨v, a, b, trivial⟩
    | .bool _, ⟨v, a, b, c⟩, _ => exact ⟨v, a, b, c⟩
    | .int _ _, ⟨v, a, b, c⟩, _ => exact ⟨v, a, b, c⟩
    | .str _, ⟨v, a, b, c⟩, _ => exact ⟨v, a, b, c⟩
    | .ptr b _, ⟨v, a, d, ⟨B, h1, h2⟩⟩, lx => exact ⟨v, a, d, ⟨B, (Ghost.cut_κ (by simpa [lowV] using lx)).trans h1, h2⟩⟩
    | .cptr cs, ⟨v, a, b, ⟨B, o, vs, h1, h2, h3⟩⟩, lx => exact ⟨v, a, b, ⟨B, o, vs, h1, h2, VRs.cut cs vs (by simpa [lowV] using lx) h3⟩⟩
    | .nilptr, ⟨v, a, b, c⟩, _ => exact ⟨v, a, b, c⟩
    | .sl tip ys, ⟨v, a, b, ⟨ad, cap, ws, T, k1, k2, k3, k4, k5⟩⟩, lx =>
      have lx' : lowT n tip = true ∧ lowL n ys = true := by simpa [lowV] using lx
      exact ⟨v, a, b, ⟨ad, cap, ws, T, k1, VRe.cut T ys ws lx'.2 k2, k3.cut lx'.1, k4, fun hx => let ⟨B, o, h6, h7⟩ := k5 hx; ⟨B, o, h6, h7⟩⟩⟩
    | .msl b o ln cp, ⟨v, a, d, ⟨B, h1, cap', h2, h3, h4⟩⟩, lx =>
      have hb : b < n := by simpa [lowV] using lx
      refine ⟨v, a, d, ⟨B, (Ghost.cut_κ hb).trans h1, cap', h2, h3, ?_⟩⟩
      rcases h4 with r | r | ⟨S, r, e, h⟩
      · exact .inl r
      · exact .inr (.inl r)
      · exact .inr (.inr ⟨S, r, e, (Ghost.cut_θ hb).trans h⟩)
    | .map b, ⟨v, a, d, ⟨B, h1, h2⟩⟩, lx => exact ⟨v, a, d, ⟨B, (Ghost.cut_κ (by simpa [lowV] using lx)).trans h1, h2⟩⟩
    | .nilmap, ⟨v, a, b, c⟩, _ => exact ⟨v, a, b, c⟩
    | .func _ fi ca, ⟨v, a, b, ⟨fi', ca', c, d, e⟩⟩, lx =>
      have lx' : lowL n fi = true ∧ lowL n ca = true := by simpa [lowV] using lx
      exact ⟨v, a, b, ⟨fi', ca', c, VRl.cut fi fi'.toList lx'.1 d, VRl.cut ca ca'.toList lx'.2 e⟩⟩
    | .nilfunc, ⟨v, a, b, c⟩, _ => exact ⟨v, a, b, c⟩
    | .yield b, ⟨v, a, d, ⟨B, h1, h2⟩⟩, lx => exact ⟨v, a, d, ⟨B, (Ghost.cut_κ (by simpa [lowV] using lx)).trans h1, h2⟩⟩
    | .iface _ y, ⟨v, a, b, ⟨x', c, d⟩⟩, lx => exact ⟨v, a, b, ⟨x', c, VR.cut y x' (by simpa [lowV] using lx) d⟩⟩
    | .niliface, ⟨v, a, b, c⟩, _ => exact ⟨v, a, b, c⟩
    | .tup ys, ⟨v, a, b, ⟨ws, c, d⟩⟩, lx => exact ⟨v, a, b, ⟨ws, c, VRl.cut ys ws.toList (by simpa [lowV] using lx) d⟩⟩
end

theorem EsR.cut {r : List (V × V)} {es : List MapEntry} (h : EsR g r es) : (∀ p ∈ r, lowV n p.1 = true ∧ lowV n p.2 = true) → EsR (g.cut n) r es := by
  induction h with
  | nil => exact fun _ => .nil
  | cons a b _ ih => exact fun l => .cons (VR.cut _ _ (l _ List.mem_cons_self).1 a) (VR.cut _ _ (l _ List.mem_cons_self).2 b) (ih fun p hp => l p (List.mem_cons_of_mem _ hp))

theorem ObR.cut {w : World} {ob : Ob} {i B : Nat} (hi : i < n) (l : lowO n ob) (h : ObR g w ob i B) : ObR (g.cut n) w ob i B := by
  cases ob with
  | cells cs => obtain ⟨vs, m, e, fz, h1, h2, h3, h4, h5⟩ := h; exact ⟨vs, m, e, fz, h1, VRs.cut _ _ l h2, h3, h4, fun e tot S he => h5 e tot S ((Ghost.cut_θ hi).symm.trans he)⟩
  | map es => obtain ⟨vs, ck, h1, h2, h3, h4⟩ := h; exact ⟨vs, ck, h1, h2.cut l, h3, h4⟩
  | pin es bs ck => obtain ⟨vs, h1, h2, h3, h5, h4⟩ := h; exact ⟨vs, h1, h2.cut l, h3, h5, h4⟩
  | iter mb s se => obtain ⟨Bm, h1, h2, h4⟩ := h; exact ⟨Bm, (Ghost.cut_κ l).trans h1, h2, h4⟩
  | pin1 es ib => obtain ⟨vs, ck, h1, h2, h3, h4, h5, b, h6, h7⟩ := h; exact ⟨vs, ck, h1, h2.cut l.1, h3, h4, h5, b, (Ghost.cut_θ l.2).trans h6, h7⟩
  | iter1 mb d => obtain ⟨Bm, b, ck, h1, h2, h3, h4⟩ := h; exact ⟨Bm, b, ck, (Ghost.cut_κ l).trans h1, (Ghost.cut_θ hi).trans h2, h3, h4⟩
  | iter0 => exact h
  | mark => exact h
  | loop t N ps a b s => exact l.elim
  | tip sz => obtain ⟨e, tot, vs, el, fz, h0, h1, h2, h3, h4⟩ := h; exact ⟨e, tot, vs, el, fz, (Ghost.cut_θ hi).trans h0, h1, h2, h3, h4⟩
end

theorem GR.cut {g : Ghost} {H : List (Nat × Ob)} {n m : Nat} {w0 : W0} {base : Nat} {w : World} (h : GR g ⟨H, m⟩ w0 base w) (l : Low n H) : GR (g.cut n) ⟨H, n⟩ w0 base w := by
  have hk : ∀ i ob B, hget H i = some ob → (g.cut n).κ i = some B → g.κ i = some B := fun i ob B h1 h2 => by
    rw [Ghost.cut_κ (l _ (hget_mem h1)).1] at h2; exact h2
  exact ⟨h.below, h.lim0, h.stab, fun i ob B h1 h2 => (h.obj i ob B h1 (hk i ob B h1 h2)).cut (l _ (hget_mem h1)).1 (l _ (hget_mem h1)).2,
    fun i j oi oj B h1 h2 h3 h4 => h.excl i j oi oj B h1 h2 (hk i oi B h1 h3) (hk j oj B h2 h4), fun i ob B h1 h2 => h.old i ob B h1 (hk i ob B h1 h2),
    fun i hi => by simp [Ghost.cut, Nat.not_lt.2 hi], h.sorted, fun p hp => (l p hp).1, h.lo⟩

/-- The names that a call has made are given anew, where nothing knows them. -/
theorem FnS.low {C : Cfg} {k : FuncId} {args : List V} {H H' : List (Nat × Ob)} {n m : Nat} {v : V} (h : FnS C k args ⟨H, n⟩ v ⟨H', m⟩) (hv : lowV n v = true) (hl : Low n H') : FnS C k args ⟨H, n⟩ v ⟨H', n⟩ := by
  refine ⟨⟨fun a b c => ?_⟩⟩
  have := h.ex.ex a b c
  refine ⟨this.1, fun g w0 base w args' h1 h2 h3 => (this.2 g w0 base w args' h1 h2 h3).mono fun e w' => ?_⟩
  rintro ⟨v1, st1, v', g', ⟨e1, e2⟩, hn, he, hx, hv', hg⟩
  subst e1; subst e2
  refine ⟨v1, ⟨H', n⟩, v', g'.cut n, ⟨rfl, rfl⟩, Nat.le_refl _, he, ⟨⟨fun i B hi => ?_, fun i x hi => ?_, hx.le.st⟩, fun i hi => ?_⟩, VR.cut _ _ hv hv', hg.cut hl⟩
  · rcases Nat.lt_or_ge i n with h' | h'
    · rw [Ghost.cut_κ h']; exact hx.le.κ i B hi
    · rw [(h1.lim i h').1] at hi; cases hi
  · rcases Nat.lt_or_ge i n with h' | h'
    · rw [Ghost.cut_θ h']; exact hx.le.θ i x hi
    · rw [(h1.lim i h').2] at hi; cases hi
  · rw [Ghost.cut_κ hi, Ghost.cut_θ hi]; exact hx.old i hi

/-! Heaps that know no names from n on. -/
theorem Low.nil {n : Nat} : Low n [] := fun p hp => by cases hp
theorem Low.cons {n i : Nat} {o : Ob} {H : List (Nat × Ob)} (h : Low n H) (hi : i < n) (ho : lowO n o) : Low n ((i, o) :: H) := fun p hp => by
  cases hp with
  | head => exact ⟨hi, ho⟩
  | tail _ hp => exact h p hp
theorem Low.set {n b : Nat} {o : Ob} {H : List (Nat × Ob)} (h : Low n H) (ho : lowO n o) : Low n (hset H b o) := by
  induction H with
  | nil => exact h
  | cons p r ih =>
    obtain ⟨i, x⟩ := p
    have hr : Low n r := fun p hp => h p (List.mem_cons_of_mem _ hp)
    have hi := h _ List.mem_cons_self
    simp only [hset]
    split
    · exact hr.cons hi.1 ho
    · exact (ih hr).cons hi.1 hi.2
theorem Low.lt {n b : Nat} {o : Ob} {H : List (Nat × Ob)} (h : Low n H) (hb : hget H b = some o) : b < n := (h _ (hget_mem hb)).1
mutual
theorem lowV.le {n m : Nat} (h : n ≤ m) : ∀ v : V, lowV n v = true → lowV m v = true
  | .any, l | .bool _, l | .int _ _, l | .str _, l | .nilptr, l | .nilmap, l | .nilfunc, l | .niliface, l => rfl
  | .ptr b _, l | .msl b _ _ _, l | .map b, l | .yield b, l => by simp only [lowV, decide_eq_true_eq] at l ⊢; omega
  | .cptr cs, l | .agg cs, l | .tup cs, l => lowL.le h cs (by simpa [lowV] using l)
  | .sl tip xs, l => by
    have l' : lowT n tip = true ∧ lowL n xs = true := by simpa [lowV] using l
    have a := lowL.le h xs l'.2
    have b : lowT m tip = true := by
      cases tip <;> simp_all [lowT]; omega
    simp [lowV, a, b]
  | .func _ fi ca, l => by
    have l' : lowL n fi = true ∧ lowL n ca = true := by simpa [lowV] using l
    simp [lowV, lowL.le h fi l'.1, lowL.le h ca l'.2]
  | .iface _ x, l => lowV.le h x (by simpa [lowV] using l)
theorem lowL.le {n m : Nat} (h : n ≤ m) : ∀ vs : List V, lowL n vs = true → lowL m vs = true
  | [], _ => rfl
  | x :: xs, l => by
    have l' : lowV n x = true ∧ lowL n xs = true := by simpa [lowL] using l
    simp [lowL, lowV.le h x l'.1, lowL.le h xs l'.2]
end
theorem lowO.le {n m : Nat} (h : n ≤ m) {o : Ob} (l : lowO n o) : lowO m o := by
  cases o with
  | cells cs => exact lowL.le h cs l
  | map es => exact fun p hp => ⟨lowV.le h _ (l p hp).1, lowV.le h _ (l p hp).2⟩
  | pin es bs ck => exact fun p hp => ⟨lowV.le h _ (l p hp).1, lowV.le h _ (l p hp).2⟩
  | pin1 es ib => exact ⟨fun p hp => ⟨lowV.le h _ (l.1 p hp).1, lowV.le h _ (l.1 p hp).2⟩, Nat.lt_of_lt_of_le l.2 h⟩
  | iter mb s se => exact Nat.lt_of_lt_of_le l h
  | iter1 mb d => exact Nat.lt_of_lt_of_le l h
  | iter0 => trivial
  | mark => trivial
  | loop t N ps a b s => exact l.elim
  | tip sz => trivial
theorem Low.le {n m : Nat} {H : List (Nat × Ob)} (l : Low n H) (h : n ≤ m) : Low m H := fun p hp => ⟨Nat.lt_of_lt_of_le (l p hp).1 h, (l p hp).2.le h⟩
end Go.Vm
/- Heaps of which facts alone are known; ranges over maps of one entry, in walks. -/
namespace Go.Vm
open Go Go.RowKit

theorem hgN (H : List (Nat × Ob)) {a b : Nat} (o : Ob) (h : b ≠ a) : hget (hset H a o) b = hget H b := by rw [hget_hset, if_neg h]
theorem hgS (H : List (Nat × Ob)) {a : Nat} {o' : Ob} (o : Ob) (h : hget H a = some o') : hget (hset H a o) a = some o := by rw [hget_hset, if_pos rfl, h]; rfl
theorem hdN : ∀ (H : List (Nat × Ob)) {a b : Nat}, b ≠ a → hget (hdel H a) b = hget H b
  | [], _, _, _ => rfl
  | (i, o) :: r, a, b, h => by
    by_cases hi : i = a
    · subst hi
      have : (i == b) = false := by simp; exact fun e => h e.symm
      simp [hdel, hget, this]
    · by_cases hb : i = b
      · subst hb; simp [hdel, hget, hi]
      · simp [hdel, hget, hi, hb, hdN r h]
theorem hwK {n i : Nat} (o : Ob) (H : List (Nat × Ob)) (h : i < n) : hdrop n ((i, o) :: H) = (i, o) :: H := by simp [hdrop, Nat.not_le.2 h]
theorem hdrop_of_lt : ∀ {H : List (Nat × Ob)} {n : Nat}, (∀ p ∈ H, p.1 < n) → hdrop n H = H
  | [], _, _ => rfl
  | (i, o) :: r, n, h => by
    have hi : i < n := h (i, o) List.mem_cons_self
    exact hwK o r hi
section
variable {C : Cfg} {ops : Array Oper} {t : List (Nat × V)} {dd : List (V × List V)} {st : St} {Q : Fr → St → Prop} {d : Tmp} {type : TypeId} {pos : String} {after : Array Edge} {rest : List Oper}
end
end Go.Vm
/- Arguments without slices: nothing to forget of them. -/
namespace Go.Vm
open Go Go.RowKit

end Go.Vm
/- Ranges over maps: whatever the order. -/
namespace Go.Vm
open Go Go.RowKit

section
variable {C : Cfg} {ops : Array Oper} {f : Fr} {st : St} {Q : Fr → St → Prop} {dst : Option Tmp} {type : TypeId} {pos : String} {after : Array Edge} {rest : List Oper}

/-- A range over a map begins. -/
theorem EvOps.range {t key elem : TypeId} {x : Operand} {mb : Nat} {es : List (V × V)} (hu : C.P.underlying t = some (.map key elem)) (hx : evalO C f x = .map mb) (hm : hget st.H mb = some (.map es))
    (h : ∀ (bs : List Nat) (ck : Nat), bs.length = es.length → bs.Nodup → EvOps C ops rest (f.put dst (.ptr st.n 0)) ⟨(st.n, .iter mb ck []) :: hset st.H mb (.pin es bs ck), st.n + 1⟩ Q) :
    EvOps C ops ({ dst := dst, op := .range t x, type := type, pos := pos, after := after, guard := none } :: rest) f st Q :=
  EvOps.go rfl fun hC hP hX w0 base g w a hG hgl hf hd Kc Qx hKc => by
    have hρ := hf.eval (C := C) hgl
    have hxr := hρ x
    rw [hx] at hxr
    obtain ⟨B, hκ, hxe⟩ := hxr
    obtain ⟨es', ck, hb, hes, hstm, hst⟩ := hG.obj mb _ B hm hκ
    have hlen : (es'.toList.map (·.born)).length = es.length := by rw [List.length_map, hes.length]
    have hnd : (es'.toList.map (·.born)).Nodup := by
      have := (Stamped.iff.1 hstm).1
      exact this.imp fun h => Nat.ne_of_lt h
    have h1 := hG.reob (ob' := .pin es (es'.toList.map (·.born)) ck) hm fun B' hκ' _ => by
      rw [hκ] at hκ'; cases hκ'
      exact ⟨es', hb, hes, rfl, hstm, hst⟩
    have h2 := h1.add (some (.iter mb ck []))
    have hn := hG.lim st.n (Nat.le_refl _)
    obtain ⟨m1, m2⟩ := h2.mat (i := st.n) (ob := .iter mb ck []) (by simp [St.add, hget]) hn.1 (by simp [St.add]) (.mapIter (some B) ck #[] ck)
      ⟨B, by simp only [Ghost.withκ]; split; (rename_i e; rw [← e, hκ] at hn; cases hn.1); exact hκ, heap_new w _, fun o => hG.st_new (Nat.le_refl _) o⟩
    unfold Oper.wp
    have hrun : (execOp a.eval { dst := dst, op := .range t x, type := type, pos := pos, after := after, guard := none }).run C.P w = .ok (.value (.pointer (some ⟨w.heap.size, 0, none⟩))) (w.alloc (.mapIter (some B) ck #[] ck)) := by
      simp only [execOp, hxe, Sem.run_bind, run_range_map w t key elem B es' ck hu hb, Result.andThen_ok, Sem.run_pure]
    rw [hrun, Oper.upon_value]
    refine hKc _ _ _ _ _ (h _ ck hlen hnd) (Nat.le_succ _) ⟨m2, fun i hi => ?_⟩ ((hf.mono m2).put hd ?_) m1 (size_put _ _ _)
    · simp only [Ghost.withκ]
      rw [if_neg (by omega)]
      exact ⟨rfl, trivial⟩
    · exact ⟨w.heap.size, by simp [Ghost.withκ], rfl⟩

/-- The next entry. -/
theorem EvOps.next {it : Operand} {ib mb ck : Nat} {seen bs : List Nat} {es : List (V × V)} (hit : evalO C f it = .ptr ib 0) (hib : hget st.H ib = some (.iter mb ck seen)) (hmb : hget st.H mb = some (.pin es bs ck))
    (h1 : ∀ (i b : Nat) (e : V × V), bs[i]? = some b → es[i]? = some e → b ∉ seen → EvOps C ops rest (f.put dst (.tup [.bool true, e.1, e.2])) { st with H := hset st.H ib (.iter mb ck (seen ++ [b])) } Q)
    (h0 : (∀ b ∈ bs, b ∈ seen) → EvOps C ops rest (f.put dst (.tup [.bool false])) st Q) :
    EvOps C ops ({ dst := dst, op := .next it false, type := type, pos := pos, after := after, guard := none } :: rest) f st Q :=
  EvOps.go rfl fun hC hP hX w0 base g w a hG hgl hf hd Kc Qx hKc => by
    have hρ := hf.eval (C := C) hgl
    have hxr := hρ it
    rw [hit] at hxr
    obtain ⟨Bi, hκi, hxe⟩ := hxr
    obtain ⟨B, hκ, hbi, hsti⟩ := hG.obj ib _ Bi hib hκi
    obtain ⟨es', hb, hes, hbs, hstm, hst⟩ := hG.obj mb _ B hmb hκ
    have hmem : ∀ b : Nat, (seen.toArray.contains b = true) ↔ b ∈ seen := fun b => by simp
    unfold Oper.wp
    rcases run_next_at (P := C.P) w type Bi B ck ck seen.toArray es' ck hbi hb hstm.2 (Nat.le_refl _) with ⟨hz, hrun⟩ | ⟨e, he, w1, hw1, hrun⟩
    · have hrun' : (execOp a.eval { dst := dst, op := .next it false, type := type, pos := pos, after := after, guard := none }).run C.P w = .ok (.value (.tuple #[.bool false])) w := by
        simp only [execOp, hxe, Sem.run_bind, hrun, Result.andThen_ok, Sem.run_pure]
      rw [hrun', Oper.upon_value]
      refine hKc _ _ g _ _ (h0 fun b hb' => ?_) (Nat.le_refl _) (Ext.refl _ _) (hf.put hd ⟨#[.bool false], rfl, _, _, rfl, rfl, rfl⟩) hG (size_put _ _ _)
      rw [← hbs] at hb'
      obtain ⟨e, he, rfl⟩ := List.mem_map.1 hb'
      have hl : leftOf es' seen.toArray = #[] := Array.eq_empty_of_size_eq_zero hz
      refine Classical.byContradiction fun hns => ?_
      have : e ∈ leftOf es' seen.toArray := by
        unfold leftOf
        rw [Array.mem_filter]
        refine ⟨by simpa using he, ?_⟩
        simp only [Bool.not_eq_true']
        cases hc : seen.toArray.contains e.born with
        | false => rfl
        | true => exact absurd ((hmem _).1 hc) hns
      rw [hl] at this
      simp at this
    · have hrun' : (execOp a.eval { dst := dst, op := .next it false, type := type, pos := pos, after := after, guard := none }).run C.P w = .ok (.value (.tuple #[.bool true, e.key, e.val])) (Go.ChangeMaps.setBlock w1 Bi (.mapIter (some B) ck (seen.toArray.push e.born) ck)) := by
        simp only [execOp, hxe, Sem.run_bind, hrun, Result.andThen_ok, Sem.run_pure]
      rw [hrun', Oper.upon_value]
      have hem : e ∈ es'.toList ∧ e.born ∉ seen := by
        unfold leftOf at he
        have := Array.mem_filter.1 (Array.mem_toList_iff.1 he)
        refine ⟨by simpa using this.1, fun hs => ?_⟩
        have h2 := this.2
        rw [(hmem _).2 hs] at h2
        cases h2
      obtain ⟨i, p, hi1, hi2, hk, hv⟩ := hes.get2 hem.1
      have hG1 : GR g st w0 base w1 := by
        rcases hw1 with rfl | rfl
        · exact hG
        · exact hG.drew
      have hbi1 : w1.heap[Bi]? = some (.mapIter (some B) ck seen.toArray ck) := by rcases hw1 with rfl | rfl <;> exact hbi
      refine hKc _ _ g _ _ (h1 i e.born p (by rw [← hbs, List.getElem?_map, hi1]; rfl) hi2 hem.2) (Nat.le_refl _) (Ext.refl _ _) (hf.put hd ⟨#[.bool true, e.key, e.val], rfl, _, _, rfl, rfl, _, _, rfl, hk, _, _, rfl, hv, rfl⟩) ?_ (size_put _ _ _)
      exact hG1.set_obj hib hκi hsti _ ⟨B, hκ, by rw [heap_setObj]; simp [hbi1], hsti⟩

/-- The entry that came last. -/
theorem EvOps.entry {it : Operand} {ib mb ck i b : Nat} {seen bs : List Nat} {es : List (V × V)} {e : V × V} (hit : evalO C f it = .ptr ib 0) (hib : hget st.H ib = some (.iter mb ck (seen ++ [b]))) (hmb : hget st.H mb = some (.pin es bs ck))
    (hb : bs[i]? = some b) (he : es[i]? = some e) (h : EvOps C ops rest (f.put dst (.tup [e.1, e.2])) st Q) :
    EvOps C ops ({ dst := dst, op := .entry it, type := type, pos := pos, after := after, guard := none } :: rest) f st Q :=
  EvOps.go rfl fun hC hP hX w0 base g w a hG hgl hf hd Kc Qx hKc => by
    have hρ := hf.eval (C := C) hgl
    have hxr := hρ it
    rw [hit] at hxr
    obtain ⟨Bi, hκi, hxe⟩ := hxr
    obtain ⟨B, hκ, hbi, hsti⟩ := hG.obj ib _ Bi hib hκi
    obtain ⟨es', hbm, hes, hbs, hstm, hst⟩ := hG.obj mb _ B hmb hκ
    obtain ⟨e', he', hk, hv⟩ := hes.get he
    have hbe : e'.born = b := by
      rw [← hbs, List.getElem?_map, he'] at hb
      simpa using hb
    have hnd : (es'.toList.map (·.born)).Nodup := (Stamped.iff.1 hstm).1.imp fun h => Nat.ne_of_lt h
    have hrun := run_entry_at (P := C.P) w Bi B ck seen.toArray es' ck e' (by rw [hbe]; simpa using hbi) hbm (List.mem_of_getElem? he') hnd
    unfold Oper.wp
    have hrun' : (execOp a.eval { dst := dst, op := .entry it, type := type, pos := pos, after := after, guard := none }).run C.P w = .ok (.value (.tuple #[e'.key, e'.val])) w := by
      simp only [execOp, hxe, Sem.run_bind, hrun, Result.andThen_ok, Sem.run_pure]
    rw [hrun', Oper.upon_value]
    exact hKc _ _ g _ _ h (Nat.le_refl _) (Ext.refl _ _) (hf.put hd ⟨#[e'.key, e'.val], rfl, _, _, rfl, hk, _, _, rfl, hv, rfl⟩) hG (size_put _ _ _)
end

section
variable {C : Cfg} {ops : Array Oper} {f : Fr} {st : St} {Q : Fr → St → Prop} {dst : Option Tmp} {type : TypeId} {pos : String} {after : Array Edge} {rest : List Oper}
/-- A slice of which nothing is known, held against nil. -/
theorem EvOps.nilSl {op : BinOp} {t e yt : TypeId} {x y : Operand} {tip : Tip} {xs : List V} (hy : isNilSl y = true) (hu : C.P.underlying t = some (.slice e)) (ho : op = .eql ∨ op = .neq) (hx : evalO C f x = .sl tip xs)
    (h : ∀ b, EvOps C ops rest (f.put dst (.bool b)) st Q) : EvOps C ops ({ dst := dst, op := .binOp op t x y yt, type := type, pos := pos, after := after, guard := none } :: rest) f st Q :=
  EvOps.go rfl fun hC hP hX w0 base g w a hG hgl hf hd Kc Qx hKc => by
    have hxr := hf.eval (C := C) hgl x
    rw [hx] at hxr
    obtain ⟨ad, cap, vs, S, hxe, _⟩ := hxr
    unfold Oper.wp
    have hrun : (execOp a.eval { dst := dst, op := .binOp op t x y yt, type := type, pos := pos, after := after, guard := none }).run C.P w = .ok (.value (.bool (if op = .eql then ad.isNone else !ad.isNone))) w := by
      simp only [execOp]
      rw [Sem.run_bind, isNilSl_eval hy a, hxe, run_nilSl (C := C) ho hu]
      rfl
    rw [hrun, Oper.upon_value]
    exact hKc _ _ g _ _ (h _) (Nat.le_refl _) (Ext.refl _ _) (hf.put hd rfl) hG (size_put _ _ _)
end

section
variable {C : Cfg} {c : Code} {f : Fr} {st : St} {Q : Ex → Fr → St → Prop}
/-- A map that is ranged over is a map. -/
theorem Ev.unpin {mb ck : Nat} {es : List (V × V)} {bs : List Nat} (hm : hget st.H mb = some (.pin es bs ck)) (h : Ev C c f { st with H := hset st.H mb (.map es) } Q) : Ev C c f st Q :=
  ⟨fun hC hP hX N w0 base g w a hc hG hgl hf hN => h.ex hC hP hX hc (hG.reob hm fun B _ ⟨es', h1, h2, h3, h4, h5⟩ => ⟨es', ck, h1, h2, h4, h5⟩) hgl hf hN⟩
/-- Names may be forgotten. -/
theorem Ev.forget {H : List (Nat × Ob)} (hs : H.Sublist st.H) (h : Ev C c f ⟨H, st.n⟩ Q) : Ev C c f st Q :=
  ⟨fun hC hP hX N w0 base g w a hc hG hgl hf hN => h.ex hC hP hX hc (hG.sub hs (Nat.le_refl _)) hgl hf hN⟩
end
end Go.Vm
/- Calls that are put off. -/
namespace Go.Vm
open Go Go.RowKit

section
variable {C : Cfg}

/-- What is told of the answer of a body that has ended. -/
theorem results_sound (hC : COk C) {fn : Func} {k : FuncId} {n0 : Nat} {Q : V → St → Prop} {g1 : Ghost} {st2 : St} {w0 : W0} {base : Nat} {w' : World} {t : List (Nat × V)} {tmps : Array Value} (e2 : GR g1 st2 w0 base w') (ht : ∀ i, VR g1 (tget t i) (tmps.getD i undef)) {vs : List V}
    (hvs : resultsV C st2.H t fn.results.toList = some vs) (hQ : Q (leaveV C k n0 (packV vs) st2).1 (leaveV C k n0 (packV vs) st2).2) :
    ∃ v', (results fn tmps).run C.P w' = .ok v' w' ∧ ∃ v st' g', Q v st' ∧ st'.n = st2.n ∧ g1.le g' ∧ (∀ i, g'.κ i = g1.κ i ∧ g'.θ i = g1.θ i) ∧ VR g' v v' ∧ GR g' st' w0 base w' := by
  obtain ⟨xs, h2, h3⟩ := resultsV_sound hC e2 ht _ hvs
  have hres : ∃ x, (results fn tmps).run C.P w' = .ok x w' ∧ VR g1 (packV vs) x := by
    refine ⟨if h : xs.toArray.size = 1 then xs.toArray[0] else .tuple xs.toArray, ?_, ?_⟩
    · unfold results
      rw [show fn.results = fn.results.toList.toArray from rfl, List.mapM_toArray]
      simp only [Sem.run_bind, Sem.run_map]
      rw [h2 _ (fun _ => rfl) (fun _ _ => rfl)]
      simp
    · match vs, h3 with
      | [], h3 => simp only [VRl] at h3; subst h3; exact ⟨#[], rfl, rfl⟩
      | [v], h3 =>
        obtain ⟨u, r, e, hu, hr⟩ := h3
        simp only [VRl] at hr
        subst hr; subst e
        exact hu
      | a :: b :: vs, h3 =>
        have := h3.length
        rw [dif_neg (by simp only [List.size_toArray, ← this, List.length_cons]; omega)]
        exact ⟨xs.toArray, rfl, by simpa using h3⟩
  obtain ⟨x, hx, hxv⟩ := hres
  obtain ⟨l1, g2, l2, l3, l4, l5⟩ := leaveV_sound (v1 := (leaveV C k n0 (packV vs) st2).1) (st1 := (leaveV C k n0 (packV vs) st2).2) e2 k n0 hxv rfl
  exact ⟨x, hx, _, _, g2, hQ, l1, l2, l3, l4, l5⟩

/-- What a call that was put off leaves. -/
structure FnD (C : Cfg) (k : FuncId) (args : List V) (st : St) (Q : St → Prop) : Prop where
  ex : COk C → GlobPure C → XOk C → (∃ fn, C.P.funcs[k]? = some fn ∧ fn.body.isSome = true) ∧
    ∀ (g : Ghost) (w0 : W0) (base : Nat) (w : World) (args' : Array Value), GR g st w0 base w → GlobR C g w0 base → VRl g args args'.toList →
      CallsD C.P k args' .returning w fun e u w' => u = .returning ∧ ∃ v' st' g', e = .returned v' ∧ Q st' ∧ st.n ≤ st'.n ∧ Ext st.n g g' ∧ GR g' st' w0 base w'

theorem codeOk_of (hC : COk C) {k : FuncId} {fn : Func} {c : Code} (hfn : C.P.funcs[k]? = some fn) (hb : fn.body = some c) : codeOk fn.ntmps c = true := by
  have := hC.funcs
  have := List.all_eq_true.1 this fn (by rw [← Array.getElem?_toList] at hfn; exact List.mem_of_getElem? hfn)
  simp only [funcOk, hb, Bool.and_eq_true] at this; exact this.1

theorem FnD.of {k : FuncId} {fn : Func} {c : Code} {args : List V} {st : St} {Q : St → Prop} (hf : C.P.funcs[k]? = some fn) (hb : fn.body = some c) (hl : decide (args.length ≤ fn.ntmps) = true)
    (h : Ev C c ⟨frame0 fn.ntmps args, []⟩ st (Lv C fn k st.n fun _ st' => Q st')) : FnD C k args st Q := by
  refine ⟨fun hC hP hX => ⟨⟨fn, hf, by rw [hb]; rfl⟩, fun g w0 base w args' hG hgl hargs => ?_⟩⟩
  have hal := hargs.length
  have hl := of_decide_eq_true hl
  simp only [Array.length_toList] at hal
  refine (callsD_of_wp hf hb (R := fun e w' => ∃ v' st' g', e = .returned v' ∧ Q st' ∧ st.n ≤ st'.n ∧ Ext st.n g g' ∧ GR g' st' w0 base w') (wp_mono (h.ex hC hP hX (codeOk_of hC hf hb) hG hgl (FR_init hargs _ _) (by simp; omega)) ?_))
  rintro x a w' ⟨e, f', st2, ⟨g1, hx, e1, e2, e3, e4⟩, hn, hq⟩
  subst hx
  have key : f'.d = [] → ∀ vs, resultsV C st2.H f'.t fn.results.toList = some vs → Q (leaveV C k st.n (packV vs) st2).2 →
      a.defers = [] ∧ ∃ v', (results fn a.tmps).run C.P w' = .ok v' w' ∧ ∃ v'' st' g', Ending.returned v' = .returned v'' ∧ Q st' ∧ st.n ≤ st'.n ∧ Ext st.n g g' ∧ GR g' st' w0 base w' := by
    intro hd vs hvs hQ
    have hdef : a.defers = [] := by
      have := e3.d
      rw [hd] at this
      generalize a.defers = ds at this
      cases this; rfl
    obtain ⟨v', h1, v, st', g', h2, h3, h4, h5, h6, h7⟩ := results_sound (Q := fun _ st' => Q st') hC e2 e3.t hvs hQ
    exact ⟨hdef, v', h1, v', st', g', rfl, h2, by rw [h3]; exact hn, ⟨e1.le.trans h4, fun i hi => ⟨(h5 i).1.trans (e1.old i hi).1, (h5 i).2.trans (e1.old i hi).2⟩⟩, h7⟩
  cases e
  case normal => obtain ⟨hd, vs, h1, h2⟩ := hq; exact key hd vs h1 h2
  case ret => obtain ⟨hd, vs, h1, h2⟩ := hq; exact key hd vs h1 h2
  all_goals exact hq.elim

end
end Go.Vm
/- Known functions, one by one. -/
namespace Go.Vm
open Go Go.RowKit

/-- A call that leaves the memory as it is, by what it may answer. -/
theorem AC.ofFn {C C' : Cfg} (hP : C'.P = C.P) (hg : C'.glob = C.glob) (hI : C'.I = C.I) (hlo : C'.lo = C.lo) (hC : COk C) (hp : GlobPure C) (hX : XOk C) {k : FuncId} {args : List V} {st : St} {v : V} (h : Fn C k args st fun v1 st1 => v1 = v ∧ st1 = st) : AC C' k args st v st := by
  obtain ⟨h1, h2⟩ := h.ex hC hp hX
  refine ⟨Nat.le_refl _, by rw [hP]; exact h1, fun g w0 base w args' hG hgl ha => ?_⟩
  rw [hP]
  refine (h2 g w0 base w args' hG ⟨fun i => by rw [← hg]; exact hgl.vr i, by rw [← hI]; exact hgl.inv, by rw [← hlo]; exact hgl.lo⟩ ha).mono ?_
  rintro e w' ⟨v1, st1, v', g', ⟨rfl, rfl⟩, _, he, hext, hv, hG'⟩
  exact ⟨v', g', he, hext, hv, hG'⟩

theorem XOk.none {C : Cfg} (h : ∀ k args st, C.X k args st = none) : XOk C := fun k args st v st' hx => by rw [h] at hx; cases hx

/-- A slice of which nothing is known, held against nil. -/
theorem sNil {C : Cfg} {ops : Array Oper} {t : List (Nat × V)} {dd : List (V × List V)} {st : St} {Q : Fr → St → Prop} {d : Tmp} {type : TypeId} {pos : String} {after : Array Edge} {rest : List Oper} {op : BinOp} {ty e yt : TypeId} {x y : Operand} {tip : Tip} {xs : List V}
    (hu : C.P.underlying ty = some (.slice e)) (hx : evalO C ⟨t, dd⟩ x = .sl tip xs) (hy : isNilSl y = true) (ho : op = .eql ∨ op = .neq)
    (h : ∀ b, EvOps C ops rest ⟨tset t d (.bool b), dd⟩ st Q) : EvOps C ops ({ dst := some d, op := .binOp op ty x y yt, type := type, pos := pos, after := after, guard := none } :: rest) ⟨t, dd⟩ st Q := EvOps.nilSl hy hu ho hx h

end Go.Vm
/- The evaluator, with calls that are put off. -/
namespace Go.Vm
open Go Go.RowKit
section
variable (C : Cfg)
end
section
variable {C : Cfg} {K : FuncId → List V → St → Option (V × St)}
theorem Ev.ofExec (hK : COk C → GlobPure C → XOk C → KOk C K) {n : Nat} {c : Code} {f f' : Fr} {st st' : St} {e : Ex} {Q : Ex → Fr → St → Prop} (h : exec C K n c f st = some (e, f', st')) (hq : Q e f' st') : Ev C c f st Q :=
  ⟨fun hC hP hX N w0 base g w a hc hG hgl hf hN => wp_mono ((exec_sound hC (hK hC hP hX) n).1 h hc hG hgl hf hN) fun x a w hx => ⟨e, f', st', hx, (exec_n (hK hC hP hX) n).1 h, hq⟩⟩

end
end Go.Vm
/- Memory that is written no more; contracts of one configuration in another. -/
namespace Go.Vm
open Go Go.RowKit
section
variable {C : Cfg} {c : Code} {f : Fr} {st : St} {Q : Ex → Fr → St → Prop}

/-- A contract speaks of the program and its variables alone. -/
theorem Fn.tr {C C' : Cfg} {k : FuncId} {args : List V} {st : St} {Q : V → St → Prop} (h : Fn C k args st Q) (hc : COk C) (hp : GlobPure C) (hx : XOk C) (e1 : C'.P = C.P) (e2 : C'.glob = C.glob) (e3 : C'.I = C.I) (e4 : C'.lo = C.lo) : Fn C' k args st Q :=
  ⟨fun _ _ _ => by
    obtain ⟨a, b⟩ := h.ex hc hp hx
    refine ⟨by rw [e1]; exact a, fun g w0 base w args' hg hgl ha => ?_⟩
    rw [e1]
    exact b g w0 base w args' hg ⟨fun i => by rw [← e2]; exact hgl.vr i, by rw [← e3]; exact hgl.inv, by rw [← e4]; exact hgl.lo⟩ ha⟩

/-- A frame, all of whose own memory is frozen. -/
def frzF (n0 : Nat) (H : List (Nat × Ob)) (t : List (Nat × V)) : List (Nat × V) := t.map fun p => (p.1, frz n0 H 1 p.2)
theorem tget_frzF (n0 : Nat) (H : List (Nat × Ob)) : ∀ (t : List (Nat × V)) (i : Nat), tget (frzF n0 H t) i = frz n0 H 1 (tget t i)
  | [], i => rfl
  | (j, v) :: r, i => by
    simp only [frzF, List.map_cons, tget]
    split
    · rfl
    · exact tget_frzF n0 H r i

theorem Ev.freeze (n0 : Nat) (H' : List (Nat × Ob)) (hs : H'.Sublist st.H) (hp : ∀ p ∈ H', p.1 < n0 ∨ ∃ sz, p.2 = .tip sz) (h : Ev C c ⟨frzF n0 st.H f.t, f.d⟩ ⟨H', st.n⟩ Q) : Ev C c f st Q :=
  ⟨fun hC hP hX N w0 base g w a hc hG hgl hf hN => by
    obtain ⟨h1, h2, h3⟩ := hG.freeze n0
    have := h.ex hC hP hX hc (h3 H' hs hp) (hgl.mono h1) ⟨fun i => by rw [tget_frzF]; exact VR.frz h1 h2 1 _ _ (hf.t i), hf.d.mono h1⟩ hN
    exact wp_mono this fun x a w hx => hx.up ⟨h1, fun i _ => ⟨rfl, rfl⟩⟩ (Nat.le_refl _)⟩
theorem EvOps.freeze {ops : Array Oper} {l : List Oper} {Q : Fr → St → Prop} (n0 : Nat) (H' : List (Nat × Ob)) (hs : H'.Sublist st.H) (hp : ∀ p ∈ H', p.1 < n0 ∨ ∃ sz, p.2 = .tip sz) (h : EvOps C ops l ⟨frzF n0 st.H f.t, f.d⟩ ⟨H', st.n⟩ Q) : EvOps C ops l f st Q :=
  ⟨fun hC hP hX N w0 base g w a hc hd hG hgl hf hN R hR => by
    obtain ⟨h1, h2, h3⟩ := hG.freeze n0
    refine h.ex hC hP hX hc hd (h3 H' hs hp) (hgl.mono h1) ⟨fun i => by rw [tget_frzF]; exact VR.frz h1 h2 1 _ _ (hf.t i), hf.d.mono h1⟩ hN R fun f' st' g' a' w' q1 q2 q3 q4 q5 q6 => ?_
    exact hR f' st' g' a' w' q1 q2 (Ext.trans ⟨h1, fun i _ => ⟨rfl, rfl⟩⟩ q3 (Nat.le_refl _)) q4 q5 q6⟩
end
end Go.Vm
