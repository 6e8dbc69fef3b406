/- The evaluator's heap against the model's memory: what may happen to both. -/
import Derived.Test.YtklcmgodhpediaaGreatDoorN2
import Derived.Laws.CopyRow
import Derived.Laws.Tables
import Derived.Laws.CopyOwn
set_option linter.unusedSimpArgs false
set_option linter.unusedVariables false
namespace Go.Vm
open Go Go.RowKit

/-! ### Lists of names -/
theorem hget_mem : ∀ {H : List (Nat × Ob)} {i : Nat} {o : Ob}, hget H i = some o → (i, o) ∈ H
  | [], _, _, h => by simp [hget] at h
  | (j, p) :: r, i, o, h => by
    simp only [hget] at h
    split at h
    · rename_i e; simp at e; cases h; subst e; exact List.mem_cons_self
    · exact List.mem_cons_of_mem _ (hget_mem h)

theorem hget_hset : ∀ (H : List (Nat × Ob)) (b i : Nat) (x : Ob), hget (hset H b x) i = if i = b then (hget H b).map (fun _ => x) else hget H i
  | [], b, i, x => by simp [hset, hget]
  | (j, p) :: r, b, i, x => by
    simp only [hset]
    by_cases hj : j = b
    · subst hj
      by_cases hi : i = j
      · subst hi; simp [hget]
      · simp [hget, hi, Ne.symm hi]
    · have hj' : (j == b) = false := by simp [hj]
      simp only [hj', Bool.false_eq_true, if_false, hget]
      by_cases hi : i = b
      · subst hi; simp [hj, hget_hset r i i x]
      · by_cases hji : j = i
        · subst hji; simp [hi]
        · simp [hji, hi, hget_hset r b i x]

def Sorted (H : List (Nat × Ob)) : Prop := H.Pairwise fun a b => b.1 < a.1

theorem hset_keys : ∀ (H : List (Nat × Ob)) (b : Nat) (x : Ob), (hset H b x).map (·.1) = H.map (·.1)
  | [], _, _ => rfl
  | (j, p) :: r, b, x => by
    simp only [hset]; split
    · simp_all
    · simp [hset_keys r b x]

theorem Sorted.hset {H : List (Nat × Ob)} (h : Sorted H) (b : Nat) (x : Ob) : Sorted (Vm.hset H b x) := by
  unfold Sorted at *
  have h1 : (H.map (·.1)).Pairwise fun a b => b < a := List.pairwise_map.2 h
  rw [← hset_keys H b x] at h1
  exact List.pairwise_map.1 h1

theorem hdel_sub : ∀ (H : List (Nat × Ob)) (b : Nat), (hdel H b).Sublist H
  | [], _ => List.Sublist.refl _
  | (j, p) :: r, b => by
    simp only [hdel]; split
    · exact List.sublist_cons_self _ _
    · exact (hdel_sub r b).cons_cons _

theorem hdrop_sub : ∀ (n : Nat) (H : List (Nat × Ob)), (hdrop n H).Sublist H
  | _, [] => List.Sublist.refl _
  | n, (j, p) :: r => by
    simp only [hdrop]; split
    · exact (hdrop_sub n r).trans (List.sublist_cons_self _ _)
    · exact List.Sublist.refl _

theorem Sorted.get {H : List (Nat × Ob)} (h : Sorted H) {i : Nat} {o : Ob} (hm : (i, o) ∈ H) : hget H i = some o := by
  induction H with
  | nil => cases hm
  | cons p r ih =>
    obtain ⟨j, q⟩ := p
    have h' := List.pairwise_cons.1 h
    cases hm with
    | head => simp [hget]
    | tail _ hm =>
      have := h'.1 _ hm
      have hne : (j == i) = false := by simp; simp at this; omega
      simp only [hget, hne, Bool.false_eq_true, if_false]
      exact ih h'.2 hm

theorem Sorted.sub {H H' : List (Nat × Ob)} (h : Sorted H) (hs : H'.Sublist H) : Sorted H' := List.Pairwise.sublist hs h

theorem Sorted.sub_get {H H' : List (Nat × Ob)} (h : Sorted H) (hs : H'.Sublist H) {i : Nat} {o : Ob} (hg : hget H' i = some o) : hget H i = some o :=
  h.get (hs.subset (hget_mem hg))

/-! ### What an object is in memory -/
inductive EsR (g : Ghost) : List (V × V) → List MapEntry → Prop
  | nil : EsR g [] []
  | cons {k v : V} {e : MapEntry} {r : List (V × V)} {es : List MapEntry} : VR g k e.key → VR g v e.val → EsR g r es → EsR g ((k, v) :: r) (e :: es)

theorem EsR.mono {g g' : Ghost} (h : g.le g') {r : List (V × V)} {es : List MapEntry} (k : EsR g r es) : EsR g' r es := by
  induction k with
  | nil => exact .nil
  | cons a b _ ih => exact .cons (a.mono h) (b.mono h) ih

theorem EsR.length {g : Ghost} {r : List (V × V)} {es : List MapEntry} (k : EsR g r es) : r.length = es.length := by
  induction k with
  | nil => rfl
  | cons _ _ _ ih => simp [ih]

/-- No cell of a row of so many is frozen. -/
def Free (fz : Nat × Nat) (n : Nat) : Prop := ∀ x, x < n → ¬(fz.1 ≤ x ∧ x < fz.2)

/-- The stamps of a map's entries: they grow, and lie below its clock. -/
def Stamped (es : List MapEntry) (ck : Nat) : Prop := es.Pairwise (fun a b => a.born < b.born) ∧ ∀ e ∈ es, e.born < ck

theorem Stamped.iff {es : List MapEntry} {ck : Nat} : Stamped es ck ↔ (es.map (·.born)).Pairwise (· < ·) ∧ ∀ b ∈ es.map (·.born), b < ck := by
  unfold Stamped
  rw [List.pairwise_map]
  simp
theorem Stamped.congr {es es2 : List MapEntry} {ck : Nat} (h : Stamped es ck) (e : es2.map (·.born) = es.map (·.born)) : Stamped es2 ck := by
  rw [Stamped.iff] at h ⊢
  rw [e]; exact h

def ObR (g : Ghost) (w : World) (ob : Ob) (i B : Nat) : Prop :=
  match ob with
  | .cells cs => ∃ vs more elem fz, w.heap[B]? = some (.cells (vs ++ more) elem fz) ∧ VRs g cs vs.toList ∧ Free fz (vs ++ more).size ∧ (∀ o, g.st B o = none) ∧ ∀ e tot S, g.θ i = some (e, tot, S) → tot ≤ (vs ++ more).size
  | .map es => ∃ es' ck, w.heap[B]? = some (.map es' ck) ∧ EsR g es es'.toList ∧ Stamped es'.toList ck ∧ ∀ o, g.st B o = none
  | .pin es bs ck => ∃ es', w.heap[B]? = some (.map es' ck) ∧ EsR g es es'.toList ∧ es'.toList.map (·.born) = bs ∧ Stamped es'.toList ck ∧ ∀ o, g.st B o = none
  | .pin1 es ib => ∃ es' ck, w.heap[B]? = some (.map es' ck) ∧ EsR g es es'.toList ∧ Stamped es'.toList ck ∧ (∀ o, g.st B o = none) ∧ es.length ≤ 1 ∧ ∃ b, g.θ ib = some (b, ck, 0) ∧ ∀ e ∈ es'.toList, e.born = b
  | .iter1 mb done => ∃ Bm b ck, g.κ mb = some Bm ∧ g.θ i = some (b, ck, 0) ∧ w.heap[B]? = some (.mapIter (some Bm) ck (if done then #[b] else #[]) ck) ∧ ∀ o, g.st B o = none
  | .iter0 => w.heap[B]? = some (.mapIter none 0 #[] 0) ∧ ∀ o, g.st B o = none
  | .iter mb since seen => ∃ Bm, g.κ mb = some Bm ∧ w.heap[B]? = some (.mapIter (some Bm) since seen.toArray since) ∧ ∀ o, g.st B o = none
  | .tip sz => ∃ e tot vs elem fz, g.θ i = some (e, tot, sz) ∧ w.heap[B]? = some (.cells vs elem fz) ∧ tot ≤ vs.size ∧ Free fz vs.size ∧ ∀ o, e ≤ o → g.st B o = none

/-- A world at the start, and the cells that never change there. -/
structure W0 where
  w : World
  s0 : Nat → Nat → Option Value

structure GR (g : Ghost) (st : St) (w0 : W0) (base : Nat) (w : World) : Prop where
  below : Below base w0.w w
  lim0 : base ≤ w.heap.size
  stab : ∀ B o v, g.st B o = some v → w.cell? ⟨B, o, none⟩ = some v
  obj : ∀ i ob B, hget st.H i = some ob → g.κ i = some B → ObR g w ob i B
  excl : ∀ i j oi oj B, hget st.H i = some oi → hget st.H j = some oj → g.κ i = some B → g.κ j = some B → i = j
  old : ∀ i ob B, hget st.H i = some ob → g.κ i = some B → base ≤ B
  lim : ∀ i, st.n ≤ i → g.κ i = none ∧ g.θ i = none
  sorted : Sorted st.H
  top : ∀ p ∈ st.H, p.1 < st.n
  lo : ∀ B o, B < base → g.st B o = w0.s0 B o

theorem GR.fresh {g : Ghost} {st : St} {w0 : W0} {base : Nat} {w : World} (h : GR g st w0 base w) {i : Nat} (hi : st.n ≤ i) : hget st.H i = none := by
  cases hg : hget st.H i with
  | none => rfl
  | some o => have := h.top _ (hget_mem hg); simp at this; omega

theorem lt_of_cell {w : World} {B o : Nat} {v : Value} (h : w.cell? ⟨B, o, none⟩ = some v) : B < w.heap.size := World.block_lt_of_cell? w ⟨B, o, none⟩ h

theorem GR.st_lt {g : Ghost} {st : St} {w0 : W0} {base : Nat} {w : World} (h : GR g st w0 base w) {B o : Nat} {v : Value} (hs : g.st B o = some v) : B < w.heap.size := lt_of_cell (h.stab _ _ _ hs)

theorem ObR.lt {g : Ghost} {w : World} {ob : Ob} {i B : Nat} (h : ObR g w ob i B) : B < w.heap.size := by
  cases ob with
  | cells cs => obtain ⟨vs, m, e, fz, h, _⟩ := h; exact (Array.getElem?_eq_some_iff.1 h).1
  | map es => obtain ⟨vs, e, h, _⟩ := h; exact (Array.getElem?_eq_some_iff.1 h).1
  | pin es bs ck => obtain ⟨vs, h, _⟩ := h; exact (Array.getElem?_eq_some_iff.1 h).1
  | iter mb s se => obtain ⟨_, _, h, _⟩ := h; exact (Array.getElem?_eq_some_iff.1 h).1
  | pin1 es ib => obtain ⟨_, _, h, _⟩ := h; exact (Array.getElem?_eq_some_iff.1 h).1
  | iter1 mb d => obtain ⟨_, _, _, _, _, h, _⟩ := h; exact (Array.getElem?_eq_some_iff.1 h).1
  | iter0 => exact (Array.getElem?_eq_some_iff.1 h.1).1
  | tip sz => obtain ⟨_, _, vs, e, fz, _, h, _⟩ := h; exact (Array.getElem?_eq_some_iff.1 h).1

/-- Another world whose heap has the same block, a ghost that says as much of it. -/
theorem ObR.keep {g g' : Ghost} {w w' : World} {ob : Ob} {i B : Nat} (h : ObR g w ob i B) (hl : g.le g') (hb : w'.heap[B]? = w.heap[B]?)
    (hst : ∀ o, g.st B o = none → g'.st B o = none) (hθ : ∀ x, g'.θ i = some x → g.θ i = some x := by exact fun _ h => h) : ObR g' w' ob i B := by
  cases ob with
  | cells cs => obtain ⟨vs, m, e, fz, h1, h2, h3, h4, h5⟩ := h; exact ⟨vs, m, e, fz, hb.trans h1, h2.mono hl, h3, fun o => hst o (h4 o), fun e tot S he => h5 e tot S (hθ _ he)⟩
  | map es => obtain ⟨vs, ck, h1, h2, h3, h4⟩ := h; exact ⟨vs, ck, hb.trans h1, h2.mono hl, h3, fun o => hst o (h4 o)⟩
  | pin es bs ck => obtain ⟨vs, h1, h2, h3, h5, h4⟩ := h; exact ⟨vs, hb.trans h1, h2.mono hl, h3, h5, fun o => hst o (h4 o)⟩
  | iter mb s se => obtain ⟨Bm, h1, h2, h4⟩ := h; exact ⟨Bm, hl.κ _ _ h1, hb.trans h2, fun o => hst o (h4 o)⟩
  | pin1 es ib => obtain ⟨vs, ck, h1, h2, h3, h4, h5, b, h6, h7⟩ := h; exact ⟨vs, ck, hb.trans h1, h2.mono hl, h3, fun o => hst o (h4 o), h5, b, hl.θ _ _ h6, h7⟩
  | iter1 mb d => obtain ⟨Bm, b, ck, h1, h2, h3, h4⟩ := h; exact ⟨Bm, b, ck, hl.κ _ _ h1, hl.θ _ _ h2, hb.trans h3, fun o => hst o (h4 o)⟩
  | iter0 => exact ⟨hb.trans h.1, fun o => hst o (h.2 o)⟩
  | tip sz => obtain ⟨e, tot, vs, el, fz, h0, h1, h2, h3, h4⟩ := h; exact ⟨e, tot, vs, el, fz, hl.θ _ _ h0, hb.trans h1, h2, h3, fun o ho => hst o (h4 o ho)⟩

section
variable {g : Ghost} {st : St} {w0 : W0} {base : Nat} {w : World}

/-- Names may be forgotten. -/
theorem GR.sub (h : GR g st w0 base w) {H' : List (Nat × Ob)} (hs : H'.Sublist st.H) {n' : Nat} (hn : st.n ≤ n') : GR g ⟨H', n'⟩ w0 base w :=
  ⟨h.below, h.lim0, h.stab, fun i ob B h1 h2 => h.obj i ob B (h.sorted.sub_get hs h1) h2, fun i j oi oj B h1 h2 => h.excl i j oi oj B (h.sorted.sub_get hs h1) (h.sorted.sub_get hs h2),
    fun i ob B h1 => h.old i ob B (h.sorted.sub_get hs h1), fun i hi => h.lim i (Nat.le_trans hn hi), h.sorted.sub hs, fun p hp => Nat.lt_of_lt_of_le (h.top p (hs.subset hp)) hn, h.lo⟩

/-- A name that stands for nothing yet. -/
theorem GR.add (h : GR g st w0 base w) (ob : Option Ob) : GR g (st.add ob) w0 base w := by
  cases ob with
  | none => exact h
  | some ob =>
    have hk := (h.lim st.n (Nat.le_refl _)).1
    have get : ∀ i o B, hget ((st.n, ob) :: st.H) i = some o → g.κ i = some B → hget st.H i = some o := fun i o B hi hκ => by
      simp only [hget] at hi
      split at hi
      · rename_i e; simp at e; subst e; rw [hk] at hκ; cases hκ
      · exact hi
    refine ⟨h.below, h.lim0, h.stab, fun i o B h1 h2 => h.obj i o B (get i o B h1 h2) h2, fun i j oi oj B h1 h2 h3 h4 => h.excl i j oi oj B (get i oi B h1 h3) (get j oj B h2 h4) h3 h4,
      fun i o B h1 h2 => h.old i o B (get i o B h1 h2) h2, fun i hi => h.lim i (by simp only [St.add] at hi; omega), ?_, ?_, h.lo⟩
    · exact List.pairwise_cons.2 ⟨fun p hp => h.top p hp, h.sorted⟩
    · intro p hp
      simp only [St.add] at hp ⊢
      cases hp with
      | head => simp
      | tail _ hp => have := h.top p hp; omega

/-- A world with the same memory. -/
theorem GR.same (h : GR g st w0 base w) {w' : World} (hh : w'.heap = w.heap) (ho : w'.os = w.os) (ht : w'.tape = w.tape) (hp : w'.output = w.output) : GR g st w0 base w' := by
  have hc : ∀ a, w'.cell? a = w.cell? a := fun a => by simp [World.cell?, hh]
  refine ⟨⟨ho.trans h.below.os, ht.trans h.below.tape, hp.trans h.below.output, by rw [hh]; exact h.below.size, fun k hk => by rw [hh]; exact h.below.block k hk⟩, by rw [hh]; exact h.lim0,
    fun B o v hv => (hc _).trans (h.stab B o v hv), fun i ob B h1 h2 => (h.obj i ob B h1 h2).keep (Ghost.le.refl g) (by rw [hh]) (fun _ x => x), h.excl, h.old, h.lim, h.sorted, h.top, h.lo⟩

theorem GR.drew (h : GR g st w0 base w) : GR g st w0 base w.drew := h.same rfl rfl rfl rfl

theorem heap_new (w : World) (o : Obj) : (w.alloc o).heap[w.heap.size]? = some o := heap_alloc_new w o
theorem heap_old (w : World) (o : Obj) {k : Nat} (h : k < w.heap.size) : (w.alloc o).heap[k]? = w.heap[k]? := Below.heap_alloc w o k h

/-- A new block. What is said of it alone may be new. -/
theorem GR.alloc (h : GR g st w0 base w) (o : Obj) {g' : Ghost} (hl : g.le g') (hst : ∀ B x, B ≠ w.heap.size → g'.st B x = g.st B x)
    (hnew : ∀ x v, g'.st w.heap.size x = some v → (w.alloc o).cell? ⟨w.heap.size, x, none⟩ = some v)
    (hκ : ∀ i ob B, hget st.H i = some ob → g'.κ i = some B → g.κ i = some B ∨ (B = w.heap.size ∧ g.κ i = none ∧ ObR g' (w.alloc o) ob i B))
    (hone : ∀ i j, g'.κ i = some w.heap.size → g'.κ j = some w.heap.size → g.κ i = none → g.κ j = none → i = j)
    (hlim : ∀ i, st.n ≤ i → g'.κ i = none ∧ g'.θ i = none) (hθ : ∀ i ob B, hget st.H i = some ob → g.κ i = some B → ∀ x, g'.θ i = some x → g.θ i = some x := by exact fun _ _ _ _ _ _ h => h) : GR g' st w0 base (w.alloc o) := by
  have hold : ∀ i ob B, hget st.H i = some ob → g.κ i = some B → B < w.heap.size := fun i ob B h1 h2 => (h.obj i ob B h1 h2).lt
  refine ⟨h.below.alloc h.lim0 o, by simp; have := h.lim0; omega, ?_, ?_, ?_, ?_, hlim, h.sorted, h.top, fun B o hB => (hst B o (by have := h.lim0; omega)).trans (h.lo B o hB)⟩
  · intro B x v hv
    by_cases hB : B = w.heap.size
    · subst hB; exact hnew x v hv
    · rw [hst B x hB] at hv
      have := h.stab B x v hv
      rw [World.cell?_alloc_lt _ _ _ (lt_of_cell this)]; exact this
  · intro i ob B h1 h2
    rcases hκ i ob B h1 h2 with h3 | ⟨rfl, _, h4⟩
    · have hlt := hold i ob B h1 h3
      refine (h.obj i ob B h1 h3).keep hl (heap_old w o hlt) (fun x hx => ?_) (hθ i ob B h1 h3)
      rw [hst B x (by omega)]; exact hx
    · exact h4
  · intro i j oi oj B h1 h2 h3 h4
    rcases hκ i oi B h1 h3 with a | ⟨a1, a2, _⟩ <;> rcases hκ j oj B h2 h4 with b | ⟨b1, b2, _⟩
    · exact h.excl i j oi oj B h1 h2 a b
    · have := hold i oi B h1 a; omega
    · have := hold j oj B h2 b; omega
    · subst a1; exact hone i j h3 h4 a2 b2
  · intro i ob B h1 h2
    rcases hκ i ob B h1 h2 with h3 | ⟨rfl, _⟩
    · exact h.old i ob B h1 h3
    · exact h.lim0

/-- A ghost with a row of cells that never change. -/
def Ghost.withRow (g : Ghost) (B : Nat) (vs : List Value) : Ghost := { g with st := fun b o => if b = B then vs[o]? else g.st b o }
def Ghost.withκ (g : Ghost) (i B : Nat) : Ghost := { g with κ := fun j => if j = i then some B else g.κ j }
def Ghost.withθ (g : Ghost) (i : Nat) (x : Nat × Nat × Nat) : Ghost := { g with θ := fun j => if j = i then some x else g.θ j }

theorem Ghost.le_withκ {i B : Nat} (h : g.κ i = none) : g.le (g.withκ i B) :=
  ⟨fun j b hj => by simp only [withκ]; split; (rename_i e; subst e; rw [h] at hj; cases hj); exact hj, fun _ _ h => h, fun _ _ _ h => h⟩
theorem Ghost.le_withθ {i : Nat} {x : Nat × Nat × Nat} (h : g.θ i = none) : g.le (g.withθ i x) :=
  ⟨fun _ _ h => h, fun j b hj => by simp only [withθ]; split; (rename_i e; subst e; rw [h] at hj; cases hj); exact hj, fun _ _ _ h => h⟩
theorem Ghost.le_withRow {B : Nat} {vs : List Value} (h : ∀ o, g.st B o = none) : g.le (g.withRow B vs) :=
  ⟨fun _ _ h => h, fun _ _ h => h, fun b o v hv => by simp only [withRow]; split; (rename_i e; subst e; rw [h] at hv; cases hv); exact hv⟩

theorem Ghost.row_withRow (B : Nat) (vs : List Value) : (g.withRow B vs).row B 0 vs := fun i v hv => by simp [Ghost.withRow, hv]

theorem GR.st_new (h : GR g st w0 base w) {B : Nat} (hB : w.heap.size ≤ B) (o : Nat) : g.st B o = none := by
  cases hs : g.st B o with
  | none => rfl
  | some v => have := h.st_lt hs; omega

/-- A new block that never changes. -/
theorem GR.alloc_row (h : GR g st w0 base w) (vs : List Value) (more : Array Value) (elem : TypeId) (fz : Nat × Nat) :
    GR (g.withRow w.heap.size vs) st w0 base (w.alloc (.cells (vs.toArray ++ more) elem fz)) ∧ g.le (g.withRow w.heap.size vs) := by
  have hl : g.le (g.withRow w.heap.size vs) := Ghost.le_withRow (h.st_new (Nat.le_refl _))
  refine ⟨h.alloc _ hl (fun B x hB => by simp [Ghost.withRow, hB]) (fun x v hv => ?_) (fun i ob B h1 h2 => .inl h2) (fun i j h1 _ h3 _ => ?_) h.lim, hl⟩
  · simp only [Ghost.withRow, if_true] at hv
    have hx : x < vs.length := (List.getElem?_eq_some_iff.1 hv).1
    simp only [World.cell?, heap_new]
    simp only [Option.isSome_none, Bool.false_eq_true, if_false, Array.getElem?_append, List.size_toArray, hx, if_true, List.getElem?_toArray]
    exact hv
  · have h1' : g.κ i = some w.heap.size := h1
    rw [h3] at h1'; cases h1'

/-- A name's object comes to be: cells. -/
theorem GR.mat_cells (h : GR g st w0 base w) {i : Nat} {cs : List V} (hi : hget st.H i = some (.cells cs)) (hκ : g.κ i = none) (hθ0 : g.θ i = none) (hn : i < st.n) {vs : Array Value} (hv : VRs g cs vs.toList) (elem : TypeId) :
    GR (g.withκ i w.heap.size) st w0 base (w.alloc (.cells vs elem)) ∧ g.le (g.withκ i w.heap.size) := by
  have hl : g.le (g.withκ i w.heap.size) := Ghost.le_withκ hκ
  refine ⟨h.alloc _ hl (fun _ _ _ => rfl) (fun x v hx => ?_) (fun j ob B h1 h2 => ?_) (fun j k h1 h2 h3 h4 => ?_) (fun j hj => ?_), hl⟩
  · have := h.st_lt hx; omega
  · simp only [Ghost.withκ] at h2
    split at h2
    · rename_i e; subst e; cases h2
      rw [hi] at h1; cases h1
      exact .inr ⟨rfl, hκ, vs, #[], elem, (0, 0), by rw [Array.append_empty]; exact heap_new w _, hv.mono hl, fun x _ hx => by simp at hx, fun o => h.st_new (Nat.le_refl _) o, fun e tot S he => by have he' : g.θ j = some (e, tot, S) := he; rw [hθ0] at he'; cases he'⟩
    · exact .inl h2
  · simp only [Ghost.withκ] at h1 h2
    split at h1
    · split at h2
      · simp_all
      · rw [h4] at h2; cases h2
    · rw [h3] at h1; cases h1
  · have := h.lim j hj
    simp only [Ghost.withκ]
    rw [if_neg (by omega)]
    exact this

theorem GR.mat_map (h : GR g st w0 base w) {i : Nat} (hi : hget st.H i = some (.map [])) (hκ : g.κ i = none) (hn : i < st.n) (ck : Nat) :
    GR (g.withκ i w.heap.size) st w0 base (w.alloc (.map #[] ck)) ∧ g.le (g.withκ i w.heap.size) := by
  have hl : g.le (g.withκ i w.heap.size) := Ghost.le_withκ hκ
  refine ⟨h.alloc _ hl (fun _ _ _ => rfl) (fun x v hx => ?_) (fun j ob B h1 h2 => ?_) (fun j k h1 h2 h3 h4 => ?_) (fun j hj => ?_), hl⟩
  · have := h.st_lt hx; omega
  · simp only [Ghost.withκ] at h2
    split at h2
    · rename_i e; subst e; cases h2
      rw [hi] at h1; cases h1
      exact .inr ⟨rfl, hκ, #[], ck, heap_new w _, .nil, ⟨.nil, fun _ h => by cases h⟩, fun o => h.st_new (Nat.le_refl _) o⟩
    · exact .inl h2
  · simp only [Ghost.withκ] at h1 h2
    split at h1
    · split at h2
      · simp_all
      · rw [h4] at h2; cases h2
    · rw [h3] at h1; cases h1
  · have := h.lim j hj
    simp only [Ghost.withκ]
    rw [if_neg (by omega)]
    exact this

/-- A tip comes to be: a new block whose first cells never change. -/
theorem GR.mat_tip (h : GR g st w0 base w) {i S : Nat} (hi : hget st.H i = some (.tip S)) (hκ : g.κ i = none) (hθ : g.θ i = none) (hn : i < st.n) (vs : List Value) (more : Array Value) (elem : TypeId) (fz : Nat × Nat) {tot : Nat}
    (htot : tot ≤ vs.length + more.size) (hfz : Free fz (vs.length + more.size)) :
    GR (((g.withRow w.heap.size vs).withκ i w.heap.size).withθ i (vs.length, tot, S)) st w0 base (w.alloc (.cells (vs.toArray ++ more) elem fz)) ∧
      g.le (((g.withRow w.heap.size vs).withκ i w.heap.size).withθ i (vs.length, tot, S)) := by
  have hl : g.le (((g.withRow w.heap.size vs).withκ i w.heap.size).withθ i (vs.length, tot, S)) :=
    ((Ghost.le_withRow (h.st_new (Nat.le_refl _))).trans (Ghost.le_withκ hκ)).trans (Ghost.le_withθ hθ)
  refine ⟨h.alloc _ hl (fun B x hB => by simp [Ghost.withRow, Ghost.withκ, Ghost.withθ, hB]) (fun x v hv => ?_) (fun j ob B h1 h2 => ?_) (fun j k h1 h2 h3 h4 => ?_) (fun j hj => ?_) (fun j ob B h1 h2 x hx => ?_), hl⟩
  rotate_right
  · have hji : j ≠ i := fun e => by subst e; rw [hκ] at h2; cases h2
    simpa [Ghost.withθ, Ghost.withκ, Ghost.withRow, hji] using hx
  · simp only [Ghost.withRow, Ghost.withκ, Ghost.withθ, if_true] at hv
    have hx : x < vs.length := (List.getElem?_eq_some_iff.1 hv).1
    simp only [World.cell?, heap_new]
    simp only [Option.isSome_none, Bool.false_eq_true, if_false, Array.getElem?_append, List.size_toArray, hx, if_true, List.getElem?_toArray]
    exact hv
  · simp only [Ghost.withκ, Ghost.withθ] at h2
    split at h2
    · rename_i e; subst e; cases h2
      rw [hi] at h1; cases h1
      refine .inr ⟨rfl, hκ, vs.length, tot, vs.toArray ++ more, elem, fz, by simp [Ghost.withθ], heap_new w _, by simpa using htot, by simpa using hfz, fun o ho => ?_⟩
      simp [Ghost.withRow, Ghost.withκ, Ghost.withθ, ho]
    · exact .inl h2
  · simp only [Ghost.withκ, Ghost.withθ] at h1 h2
    split at h1
    · split at h2
      · simp_all
      · have h2' : g.κ k = some w.heap.size := h2
        rw [h4] at h2'; cases h2'
    · have h1' : g.κ j = some w.heap.size := h1
      rw [h3] at h1'; cases h1'
  · have := h.lim j hj
    simp only [Ghost.withκ, Ghost.withθ]
    rw [if_neg (by omega), if_neg (by omega)]
    exact this

/-- An object's row of cells is written. -/
theorem GR.set_cells (h : GR g st w0 base w) {i B : Nat} {cs cs' : List V} (hi : hget st.H i = some (.cells cs)) (hκ : g.κ i = some B) {vs' more' : Array Value} (hv : VRs g cs' vs'.toList) {arr : Array Value} {elem : TypeId} {fz : Nat × Nat} (hb : w.heap[B]? = some (.cells arr elem fz)) (hsz : (vs' ++ more').size = arr.size) :
    GR g { st with H := hset st.H i (.cells cs') } w0 base (w.setRow B (vs' ++ more')) := by
  obtain ⟨vs, more, elem', fz', hb', hvs, hfz, hst, hrm⟩ := h.obj i _ B hi hκ
  rw [hb] at hb'
  cases hb'
  have get : ∀ j ob b, hget (hset st.H i (.cells cs')) j = some ob → g.κ j = some b → ∃ ob', hget st.H j = some ob' := fun j ob b h1 _ => by
    rw [hget_hset] at h1
    split at h1
    · rename_i e; subst e; exact ⟨_, hi⟩
    · exact ⟨_, h1⟩
  refine ⟨below_setRow h.below (h.old i _ B hi hκ) _, by simp; exact h.lim0, ?_, ?_, ?_, ?_, h.lim, h.sorted.hset _ _, ?_, h.lo⟩
  · intro B' o v hs
    by_cases hB : B' = B
    · subst hB; rw [hst] at hs; cases hs
    · rw [cell_setRow_other _ _ _ _ hB]; exact h.stab B' o v hs
  · intro j ob b h1 h2
    rw [hget_hset] at h1
    split at h1
    · rename_i e; subst e
      rw [hκ] at h2; cases h2
      rw [hi] at h1; cases h1
      exact ⟨vs', more', elem, fz, setRow_heap w B _ _ elem fz hb, hv, by rw [hsz]; exact hfz, hst, fun e tot S he => by rw [hsz]; exact hrm e tot S he⟩
    · rename_i hne
      have hbB : b ≠ B := fun e => hne (h.excl j i ob _ B h1 hi (e ▸ h2) hκ)
      exact (h.obj j ob b h1 h2).keep (Ghost.le.refl g) (setRow_other w B b _ hbB) (fun _ x => x)
  · intro j k oj ok b h1 h2 h3 h4
    obtain ⟨_, h1'⟩ := get j oj b h1 h3
    obtain ⟨_, h2'⟩ := get k ok b h2 h4
    exact h.excl j k _ _ b h1' h2' h3 h4
  · intro j ob b h1 h2
    obtain ⟨_, h1'⟩ := get j ob b h1 h2
    exact h.old j _ b h1' h2
  · intro p hp
    have : p.1 ∈ (hset st.H i (.cells cs')).map (·.1) := List.mem_map_of_mem hp
    rw [hset_keys] at this
    obtain ⟨q, hq, he⟩ := List.mem_map.1 this
    rw [← he]; exact h.top q hq

theorem heap_setObj (w : World) (B k : Nat) (o : Obj) : ({ w with heap := w.heap.setIfInBounds B o } : World).heap[k]? = if k = B then (w.heap[B]?).map (fun _ => o) else w.heap[k]? := by
  by_cases hk : k = B
  · subst hk
    simp only [Array.getElem?_setIfInBounds, if_true]
    rcases Nat.lt_or_ge k w.heap.size with h | h
    · simp [h]
    · simp [Nat.not_lt.2 h]
  · simp [hk, Array.getElem?_setIfInBounds_ne (Ne.symm hk)]

/-- An object's entries are written. -/
theorem GR.set_map (h : GR g st w0 base w) {i B : Nat} {ob0 : Ob} {es' : List (V × V)} (hi : hget st.H i = some ob0) (hκ : g.κ i = some B) {ys : Array MapEntry} {ck0 : Nat} (hb : w.heap[B]? = some (.map ys ck0)) (hst : ∀ o, g.st B o = none) {xs : Array MapEntry} (ck : Nat) (hv : EsR g es' xs.toList) (hsm : Stamped xs.toList ck) :
    GR g { st with H := hset st.H i (.map es') } w0 base { w with heap := w.heap.setIfInBounds B (.map xs ck) } := by
  have hlt : B < w.heap.size := (Array.getElem?_eq_some_iff.1 hb).1
  have get : ∀ j ob b, hget (hset st.H i (.map es')) j = some ob → g.κ j = some b → ∃ ob', hget st.H j = some ob' := fun j ob b h1 _ => by
    rw [hget_hset] at h1
    split at h1
    · rename_i e; subst e; exact ⟨_, hi⟩
    · exact ⟨_, h1⟩
  have hcell : ∀ a : Addr, a.block ≠ B → ({ w with heap := w.heap.setIfInBounds B (.map xs ck) } : World).cell? a = w.cell? a := fun a ha => by
    unfold World.cell?; rw [heap_setObj]; simp [ha]
  have hbase := h.old i _ B hi hκ
  refine ⟨⟨h.below.os, h.below.tape, h.below.output, by simpa using h.below.size, fun k hk => by rw [heap_setObj, if_neg (by omega)]; exact h.below.block k hk⟩, by simpa using h.lim0, ?_, ?_, ?_, ?_, h.lim, h.sorted.hset _ _, ?_, h.lo⟩
  · intro B' o v hs
    by_cases hB : B' = B
    · subst hB; rw [hst] at hs; cases hs
    · rw [hcell _ hB]; exact h.stab B' o v hs
  · intro j ob b h1 h2
    rw [hget_hset] at h1
    split at h1
    · rename_i e; subst e
      rw [hκ] at h2; cases h2
      rw [hi] at h1; cases h1
      exact ⟨xs, ck, by rw [heap_setObj]; simp [hb], hv, hsm, hst⟩
    · rename_i hne
      have hbB : b ≠ B := fun e => hne (h.excl j i ob _ B h1 hi (e ▸ h2) hκ)
      exact (h.obj j ob b h1 h2).keep (Ghost.le.refl g) (by rw [heap_setObj]; simp [hbB]) (fun _ x => x)
  · intro j k oj ok b h1 h2 h3 h4
    obtain ⟨_, h1'⟩ := get j oj b h1 h3
    obtain ⟨_, h2'⟩ := get k ok b h2 h4
    exact h.excl j k _ _ b h1' h2' h3 h4
  · intro j ob b h1 h2
    obtain ⟨_, h1'⟩ := get j ob b h1 h2
    exact h.old j _ b h1' h2
  · intro p hp
    have : p.1 ∈ (hset st.H i (.map es')).map (·.1) := List.mem_map_of_mem hp
    rw [hset_keys] at this
    obtain ⟨q, hq, he⟩ := List.mem_map.1 this
    rw [← he]; exact h.top q hq

theorem hset_get {H : List (Nat × Ob)} {b i : Nat} {x ob : Ob} (h : hget (hset H b x) i = some ob) : (i = b ∧ ob = x) ∨ (i ≠ b ∧ hget H i = some ob) := by
  rw [hget_hset] at h
  split at h
  · rename_i e
    cases hb : hget H b with
    | none => rw [hb] at h; cases h
    | some y => rw [hb] at h; cases h; exact .inl ⟨e, rfl⟩
  · rename_i e; exact .inr ⟨e, h⟩

/-- Another word for an object. -/
theorem GR.reob (h : GR g st w0 base w) {i : Nat} {ob ob' : Ob} (hi : hget st.H i = some ob) (hnew : ∀ B, g.κ i = some B → ObR g w ob i B → ObR g w ob' i B) : GR g { st with H := hset st.H i ob' } w0 base w := by
  have get : ∀ j o, hget (hset st.H i ob') j = some o → ∃ o', hget st.H j = some o' := fun j o hj => by
    rcases hset_get hj with ⟨rfl, _⟩ | ⟨_, hj⟩
    · exact ⟨_, hi⟩
    · exact ⟨_, hj⟩
  refine ⟨h.below, h.lim0, h.stab, fun j o B hj hκ => ?_, fun j k oj ok B h1 h2 h3 h4 => ?_, fun j o B hj hκ => ?_, h.lim, h.sorted.hset _ _, fun p hp => ?_, h.lo⟩
  · rcases hset_get hj with ⟨rfl, rfl⟩ | ⟨_, hj⟩
    · exact hnew B hκ (h.obj j ob B hi hκ)
    · exact h.obj j o B hj hκ
  · obtain ⟨_, h1'⟩ := get j oj h1
    obtain ⟨_, h2'⟩ := get k ok h2
    exact h.excl j k _ _ B h1' h2' h3 h4
  · obtain ⟨_, h1'⟩ := get j o hj
    exact h.old j _ B h1' hκ
  · have : p.1 ∈ (hset st.H i ob').map (·.1) := List.mem_map_of_mem hp
    rw [hset_keys] at this
    obtain ⟨q, hq, he⟩ := List.mem_map.1 this
    rw [← he]; exact h.top q hq

/-- A name's object comes to be. -/
theorem GR.mat (h : GR g st w0 base w) {i : Nat} {ob : Ob} (hi : hget st.H i = some ob) (hκ : g.κ i = none) (hn : i < st.n) (o : Obj) (hob : ObR (g.withκ i w.heap.size) (w.alloc o) ob i w.heap.size) :
    GR (g.withκ i w.heap.size) st w0 base (w.alloc o) ∧ g.le (g.withκ i w.heap.size) := by
  have hl : g.le (g.withκ i w.heap.size) := Ghost.le_withκ hκ
  refine ⟨h.alloc _ hl (fun _ _ _ => rfl) (fun x v hx => ?_) (fun j ob' B h1 h2 => ?_) (fun j k h1 h2 h3 h4 => ?_) (fun j hj => ?_), hl⟩
  · have := h.st_lt hx; omega
  · simp only [Ghost.withκ] at h2
    split at h2
    · rename_i e; subst e; cases h2
      rw [hi] at h1; cases h1
      exact .inr ⟨rfl, hκ, hob⟩
    · exact .inl h2
  · simp only [Ghost.withκ] at h1 h2
    split at h1
    · split at h2
      · simp_all
      · rw [h4] at h2; cases h2
    · rw [h3] at h1; cases h1
  · have := h.lim j hj
    simp only [Ghost.withκ]
    rw [if_neg (by omega)]
    exact this

/-- An object is written whole. -/
theorem GR.set_obj (h : GR g st w0 base w) {i B : Nat} {ob ob' : Ob} (hi : hget st.H i = some ob) (hκ : g.κ i = some B) (hst : ∀ o, g.st B o = none) (o : Obj)
    (hob : ObR g { w with heap := w.heap.setIfInBounds B o } ob' i B) : GR g { st with H := hset st.H i ob' } w0 base { w with heap := w.heap.setIfInBounds B o } := by
  have hlt : B < w.heap.size := (h.obj i ob B hi hκ).lt
  have get : ∀ j o, hget (hset st.H i ob') j = some o → ∃ o', hget st.H j = some o' := fun j o hj => by
    rcases hset_get hj with ⟨rfl, _⟩ | ⟨_, hj⟩
    · exact ⟨_, hi⟩
    · exact ⟨_, hj⟩
  have hcell : ∀ a : Addr, a.block ≠ B → ({ w with heap := w.heap.setIfInBounds B o } : World).cell? a = w.cell? a := fun a ha => by
    unfold World.cell?; rw [heap_setObj]; simp [ha]
  have hbase := h.old i _ B hi hκ
  refine ⟨⟨h.below.os, h.below.tape, h.below.output, by simpa using h.below.size, fun k hk => by rw [heap_setObj, if_neg (by omega)]; exact h.below.block k hk⟩, by simpa using h.lim0, ?_, ?_, ?_, ?_, h.lim, h.sorted.hset _ _, ?_, h.lo⟩
  · intro B' o' v hs
    by_cases hB : B' = B
    · subst hB; rw [hst] at hs; cases hs
    · rw [hcell _ hB]; exact h.stab B' o' v hs
  · intro j oj b h1 h2
    rcases hset_get h1 with ⟨rfl, rfl⟩ | ⟨hne, h1⟩
    · rw [hκ] at h2; cases h2
      exact hob
    · have hbB : b ≠ B := fun e => hne (h.excl j i _ _ B h1 hi (e ▸ h2) hκ)
      exact (h.obj j oj b h1 h2).keep (Ghost.le.refl g) (by rw [heap_setObj]; simp [hbB]) (fun _ x => x)
  · intro j k oj ok b h1 h2 h3 h4
    obtain ⟨_, h1'⟩ := get j oj h1
    obtain ⟨_, h2'⟩ := get k ok h2
    exact h.excl j k _ _ b h1' h2' h3 h4
  · intro j oj b h1 h2
    obtain ⟨_, h1'⟩ := get j oj h1
    exact h.old j _ b h1' h2
  · intro p hp
    have : p.1 ∈ (hset st.H i ob').map (·.1) := List.mem_map_of_mem hp
    rw [hset_keys] at this
    obtain ⟨q, hq, he⟩ := List.mem_map.1 this
    rw [← he]; exact h.top q hq

theorem EsR.get2 {a : List (V × V)} {x : List MapEntry} (h : EsR g a x) : ∀ {e : MapEntry}, e ∈ x → ∃ (i : Nat) (p : V × V), x[i]? = some e ∧ a[i]? = some p ∧ VR g p.1 e.key ∧ VR g p.2 e.val := by
  induction h with
  | nil => intro e he; cases he
  | @cons k v e0 r es p q _ ih =>
    intro e he
    cases he with
    | head => exact ⟨0, (k, v), rfl, rfl, p, q⟩
    | tail _ he =>
      obtain ⟨i, p', h1, h2, h3, h4⟩ := ih he
      exact ⟨i + 1, p', h1, h2, h3, h4⟩

/-- A name's object comes to be, with a word of its own. -/
theorem GR.mat2 (h : GR g st w0 base w) {i : Nat} {ob : Ob} (hi : hget st.H i = some ob) (hκ : g.κ i = none) (hθ : g.θ i = none) (hn : i < st.n) (x : Nat × Nat × Nat) (o : Obj) (hob : ObR ((g.withκ i w.heap.size).withθ i x) (w.alloc o) ob i w.heap.size) :
    GR ((g.withκ i w.heap.size).withθ i x) st w0 base (w.alloc o) ∧ g.le ((g.withκ i w.heap.size).withθ i x) := by
  have hl : g.le ((g.withκ i w.heap.size).withθ i x) := (Ghost.le_withκ hκ).trans (Ghost.le_withθ hθ)
  refine ⟨h.alloc _ hl (fun _ _ _ => rfl) (fun x v hx => ?_) (fun j ob' B h1 h2 => ?_) (fun j k h1 h2 h3 h4 => ?_) (fun j hj => ?_) (fun j ob B h1 h2 y hy => ?_), hl⟩
  · have := h.st_lt hx; omega
  · simp only [Ghost.withκ, Ghost.withθ] at h2
    split at h2
    · rename_i e; subst e; cases h2
      rw [hi] at h1; cases h1
      exact .inr ⟨rfl, hκ, hob⟩
    · exact .inl h2
  · simp only [Ghost.withκ, Ghost.withθ] at h1 h2
    split at h1
    · split at h2
      · simp_all
      · have h2' : g.κ k = some w.heap.size := h2
        rw [h4] at h2'; cases h2'
    · have h1' : g.κ j = some w.heap.size := h1
      rw [h3] at h1'; cases h1'
  · have := h.lim j hj
    simp only [Ghost.withκ, Ghost.withθ]
    rw [if_neg (by omega), if_neg (by omega)]
    exact this
  · have hji : j ≠ i := fun e => by subst e; rw [hκ] at h2; cases h2
    simpa [Ghost.withθ, Ghost.withκ, hji] using hy

theorem GR.map_obj (h : GR g st w0 base w) {b B : Nat} {es : List (V × V)} (hb : hgetM st.H b = some es) (hκ : g.κ b = some B) :
    ∃ ob es' ck, hget st.H b = some ob ∧ w.heap[B]? = some (.map es' ck) ∧ EsR g es es'.toList ∧ Stamped es'.toList ck ∧ ∀ o, g.st B o = none := by
  unfold hgetM at hb
  cases hg : hget st.H b with
  | none => rw [hg] at hb; cases hb
  | some ob =>
    rw [hg] at hb
    have ho := h.obj b ob B hg hκ
    cases ob <;> simp only [Option.bind_some, obMap, Option.some.injEq, reduceCtorEq] at hb
    · subst hb; obtain ⟨es', ck, h1, h2, h3, h4⟩ := ho; exact ⟨_, es', ck, rfl, h1, h2, h3, h4⟩
    · subst hb; obtain ⟨es', h1, h2, h3, h4, h5⟩ := ho; exact ⟨_, es', _, rfl, h1, h2, h4, h5⟩
    · subst hb; obtain ⟨es', ck, h1, h2, h3, h4, _⟩ := ho; exact ⟨_, es', ck, rfl, h1, h2, h3, h4⟩
end
end Go.Vm
