/- Arguments: what a reading says of the evaluator's values; and a law's answer. -/
import Derived.Test.YtbooicchghnehaaGreatDoorN17
import Derived.Deep.Slices
import Derived.OpenShut
import Derived.Carry
import Derived.SizedLaws
import Derived.Lib.Join
set_option linter.unusedSimpArgs false
set_option linter.unusedVariables false
namespace Go.Vm
open Go Go.RowKit Go.ChangeShapes

/-! How much there is: values and letters, each counted each time it is reached. -/
mutual
def dbulk {H : Type} : DataW H → Nat
  | .lit (.string bytes) => bytes.length + 1
  | .lit _ => 1
  | .nil => 1
  | .ptr d => dbulk d + 1
  | .slice elems spare => dbulkAll elems + dbulkAll spare + 1
  | .agg parts => dbulkAll parts + 1
  | .iface _ d => dbulk d + 1
  | .map entries => dbulkEntries entries + 1
  | .held _ => 1
def dbulkAll {H : Type} : List (DataW H) → Nat
  | [] => 0
  | d :: r => dbulk d + dbulkAll r
def dbulkEntries {H : Type} : List (Lit × DataW H) → Nat
  | [] => 0
  | x :: r => dbulkEntry x + dbulkEntries r
def dbulkEntry {H : Type} : Lit × DataW H → Nat
  | (.string bytes, d) => bytes.length + dbulk d + 1
  | (_, d) => dbulk d + 1
end
mutual
def vbulk : V → Nat
  | .str s => s.length + 1
  | .cptr cs => vbulks cs + 1
  | .sl _ xs => vbulks xs + 1
  | .agg cs => vbulks cs + 1
  | _ => 1
def vbulks : List V → Nat
  | [] => 0
  | v :: vs => vbulk v + vbulks vs
end
theorem vbulks_append : ∀ a b : List V, vbulks (a ++ b) = vbulks a + vbulks b
  | [], b => by simp [vbulks]
  | v :: a, b => by simp only [List.cons_append, vbulks, vbulks_append a b]; omega
section
variable (P : Program)

/-- An element, of its cells. -/
def packE (e : TypeId) (cs : List V) : V :=
  match P.underlying e with
  | some (.struct _) | some (.array _ _) => .agg cs
  | _ => cs.headD .any

/-- Parts, one behind the other. -/
def Cat (p : TypeId → List V → Prop) : List TypeId → List V → Prop
  | [], vs => vs = []
  | t :: ts, vs => ∃ a b, vs = a ++ b ∧ a.length = P.cellsOf t ∧ p t a ∧ Cat p ts b

/-- The cells of a value that comes in. -/
def Wf (r : Nat) : Nat → TypeId → List V → Prop
  | 0, _, _ => False
  | n + 1, t, vs =>
    match P.underlying t with
    | some .bool => ∃ b, vs = [.bool b]
    | some (.int k) => ∃ i, vs = [.int k i] ∧ (Lit.int k i).wf = true
    | some .string => ∃ s : List UInt8, vs = [.str s] ∧ s.length ≤ maxLen ∧ s.length ≤ r
    | some (.pointer e) => vs = [.nilptr] ∨ ∃ cs, vs = [.cptr cs] ∧ cs.length = P.cellsOf e ∧ Wf r n e cs
    | some (.slice e) => vs = [.sl .full []] ∨ ∃ xs, vs = [.sl .none xs] ∧ xs.length ≤ maxLen ∧ xs.length * P.bytesOf e ≤ r ∧ ∀ x ∈ xs, ∃ cs, cs.length = P.cellsOf e ∧ Wf r n e cs ∧ x = packE P e cs
    | some (.struct fs) => Cat P (Wf r n) (fs.toList.map (·.type)) vs
    | some (.array m e) => Cat P (Wf r n) (List.replicate m e) vs
    | _ => vs = [.any]

def contig : List Field → Nat → Nat → Bool
  | [], off, tot => off == tot
  | f :: r, off, tot => f.offset == off && contig r (off + P.cellsOf f.type) tot

/-- The program's types lie as they should. -/
def tysOk (T : List TypeId) : Bool := T.all fun t =>
  match P.underlying t with
  | some (.struct fs) => contig P fs.toList 0 (P.cellsOf t) && fs.toList.all fun f => T.contains f.type
  | some (.array m e) => P.cellsOf t == m * P.cellsOf e && T.contains e
  | some (.slice e) | some (.pointer e) => decide (0 < P.cellsOf e) && T.contains e
  | _ => true
end

def Ghost.of (w : World) : Ghost := { κ := fun _ => none, θ := fun _ => none, st := fun B o => w.cell? ⟨B, o, none⟩ }

section
variable {P : Program} {H : Type} {enc : TypeId × Value → H} {w : World} {base : Nat} {spare : Nat → Bool} {held : Bool}

theorem tysOk_at {T : List TypeId} (h : tysOk P T = true) {t : TypeId} (ht : t ∈ T) {d : TypeDesc} (hu : P.underlying t = some d) :
    (match d with
      | .struct fs => contig P fs.toList 0 (P.cellsOf t) && fs.toList.all fun f => T.contains f.type
      | .array m e => P.cellsOf t == m * P.cellsOf e && T.contains e
      | .slice e | .pointer e => decide (0 < P.cellsOf e) && T.contains e
      | _ => true) = true := by
  have := List.all_eq_true.1 h t ht
  rw [hu] at this
  cases d <;> exact this

theorem VC_packE {g : Ghost} {e : TypeId} {cs : List V} {ch : List Value} (h : VRs g cs ch)
    (h1 : (match P.underlying e with | some (.struct _) | some (.array _ _) => True | _ => ch.length = 1)) : VC g (packE P e cs) ch := by
  unfold packE
  have one : ch.length = 1 → VC g (cs.headD .any) ch := by
    intro hl
    match cs, ch, hl, h with
    | [], [u], _, h => simp only [VRs] at h; cases h
    | c :: cs, [u], _, h =>
      obtain ⟨v, vs', e, h1, h2, h3⟩ := h
      simp only [List.cons.injEq] at e
      obtain ⟨rfl, rfl⟩ := e
      exact VC.to_VR h1 h2
  split at h1
  · exact h
  · exact h
  · exact one h1

theorem trod_one (held : Bool) {fuel : Nat} {t : TypeId} {cs : List Value} {x : DataW H × List MemPlace} (h : DataW.trod enc P w base spare held fuel t cs = some x) :
    (match P.underlying t with | some (.struct _) | some (.array _ _) => True | _ => cs.length = 1 ∧ ∀ v ∈ cs, v.oneCell' = true) := by
  cases fuel with
  | zero => simp [DataW.trod] at h
  | succ n =>
    unfold DataW.trod at h
    split at h <;> simp_all [Value.oneCell']

theorem packE_agg {t : TypeId} {fs : List V} (h : (match P.underlying t with | some (.struct _) | some (.array _ _) => True | _ => False)) : packE P t fs = .agg fs := by
  unfold packE
  split at h <;> first | rfl | exact h.elim

theorem dbulkAll_map : ∀ (l : List (DataW H × List MemPlace)), dbulkAll (l.map (·.1)) = (l.map fun y => dbulk y.1).sum
  | [] => rfl
  | y :: l => by simp only [List.map_cons, dbulkAll, List.sum_cons, dbulkAll_map l]

theorem dbulk_pos : ∀ d : DataW H, 1 ≤ dbulk d
  | .lit l => by cases l <;> simp [dbulk]
  | .nil => by simp [dbulk]
  | .ptr d => by simp [dbulk]
  | .slice elems spare => by simp [dbulk]
  | .agg parts => by simp [dbulk]
  | .iface _ d => by simp [dbulk]
  | .map entries => by simp [dbulk]
  | .held _ => by simp [dbulk]

theorem weightsAll_mem {e : TypeId} : ∀ {ds : List (DataW H)} {d : DataW H}, d ∈ ds → ∀ n ∈ d.weights P e, n ∈ DataW.weightsAll P e ds
  | d0 :: ds, d, h, n, hn => by
    simp only [DataW.weightsAll, List.mem_append]
    cases h with
    | head => exact .inl hn
    | tail _ h => exact .inr (weightsAll_mem h n hn)

theorem trod_Wf {T : List TypeId} {r : Nat} (hl : tysOk P T = true) : ∀ (fuel : Nat) (t : TypeId) (cs : List Value) (x : DataW H × List MemPlace), t ∈ T → DataW.trod enc P w base spare held fuel t cs = some x → (∀ n ∈ x.1.weights P t, n ≤ r) →
    ∃ vs, Wf P r fuel t vs ∧ VRs (Ghost.of w) vs cs ∧ vbulks vs ≤ dbulk x.1 ∧ vbulk (packE P t vs) ≤ dbulk x.1 := by
  intro fuel
  induction fuel with
  | zero => intro t cs x _ h; simp [DataW.trod] at h
  | succ n ih =>
    intro t cs x ht h hw
    have hone := trod_one held h
    -- parts of a struct, of an array
    have parts : ∀ (ts : List TypeId) (off tot : Nat) (offs : List Nat) (ys : List (DataW H × List MemPlace)), offs.length = ts.length → ys.length = ts.length → (∀ (i o : Nat) (ty : TypeId), offs[i]? = some o → ts[i]? = some ty → o = off + ((ts.take i).map P.cellsOf).sum) → off + (ts.map P.cellsOf).sum = tot → tot ≤ cs.length →
        (∀ (i o : Nat) (ty : TypeId) (y : DataW H × List MemPlace), offs[i]? = some o → ts[i]? = some ty → ys[i]? = some y → ty ∈ T ∧ DataW.trod enc P w base spare held n ty ((cs.drop o).take (P.cellsOf ty)) = some y ∧ ∀ n ∈ y.1.weights P ty, n ≤ r) →
        ∃ vs, Cat P (Wf P r n) ts vs ∧ VRs (Ghost.of w) vs ((cs.drop off).take (tot - off)) ∧ vbulks vs ≤ (ys.map fun y => dbulk y.1).sum := by
      intro ts
      induction ts with
      | nil => intro off tot offs ys _ _ _ htot _ _; exact ⟨[], rfl, by simp at htot; subst htot; simp [VRs], Nat.zero_le _⟩
      | cons ty ts iht =>
        intro off tot offs ys hlen hlen2 hoff htot hle hx
        match offs, ys, hlen, hlen2 with
        | o :: offs, y :: ys, hlen, hlen2 =>
          have h0 : o = off := by simpa using hoff 0 o ty rfl rfl
          subst h0
          obtain ⟨hty, hy, hyw⟩ := hx 0 o ty y rfl rfl rfl
          obtain ⟨va, ha1, ha2, ha3, _⟩ := ih _ _ _ hty hy hyw
          simp only [List.map_cons, List.sum_cons] at htot
          obtain ⟨vb, hb1, hb2, hb3⟩ := iht (o + P.cellsOf ty) tot offs ys (by simpa using hlen) (by simpa using hlen2) (fun i o' ty' h1 h2 => by
            have := hoff (i + 1) o' ty' (by simpa using h1) (by simpa using h2)
            simp only [List.take_succ_cons, List.map_cons, List.sum_cons] at this
            omega) (by omega) hle (fun i o' ty' y' h1 h2 h3 => hx (i + 1) o' ty' y' (by simpa using h1) (by simpa using h2) (by simpa using h3))
          have hal := ha2.length
          refine ⟨va ++ vb, ⟨va, vb, rfl, ?_, ha1, hb1⟩, ?_, ?_⟩
          · rw [hal]; simp; omega
          · have : (cs.drop o).take (tot - o) = (cs.drop o).take (P.cellsOf ty) ++ (cs.drop (o + P.cellsOf ty)).take (tot - (o + P.cellsOf ty)) := by
              rw [← List.drop_drop, show tot - o = P.cellsOf ty + (tot - (o + P.cellsOf ty)) by omega, List.take_add]
            rw [this]
            exact ha2.append hb2
          · rw [vbulks_append]; simp only [List.map_cons, List.sum_cons]; omega
    cases hu : P.underlying t with
    | none => unfold DataW.trod at h; rw [hu] at h; simp at h
    | some d =>
      have hok := tysOk_at hl ht hu
      have hpk : ∀ v : V, (match d with | .struct _ | .array _ _ => False | _ => True) → packE P t [v] = v := by
        intro v hd
        unfold packE
        rw [hu]
        cases d <;> first | rfl | exact hd.elim
      cases d
      case bool => obtain ⟨b, rfl, rfl⟩ := DataW.trod_bool hu h; exact ⟨[.bool b], by simp [Wf, hu], ⟨_, _, rfl, rfl, rfl, rfl⟩, by simp [vbulks, vbulk, dbulk], by rw [hpk _ trivial]; simp [vbulks, vbulk, dbulk]⟩
      case int k => obtain ⟨i, rfl, rfl, hwi⟩ := DataW.trod_int hu h; exact ⟨[.int k i], by simp [Wf, hu, hwi], ⟨_, _, rfl, rfl, rfl, rfl⟩, by simp [vbulks, vbulk, dbulk], by rw [hpk _ trivial]; simp [vbulks, vbulk, dbulk]⟩
      case string =>
        obtain ⟨s, rfl, rfl, hwm⟩ := DataW.trod_string hu h
        refine ⟨[.str s.data.toList], ?_, ⟨_, _, rfl, rfl, rfl, rfl⟩, by simp [vbulks, vbulk, dbulk], by rw [hpk _ trivial]; simp [vbulks, vbulk, dbulk]⟩
        simp only [Wf, hu]
        exact ⟨_, rfl, by simpa using hwm, hw _ (by simp [DataW.weights])⟩
      case pointer e =>
        rcases DataW.trod_pointer hu h with ⟨rfl, rfl⟩ | ⟨a, cs', y, m, hm, rfl, rfl, hc, hy⟩
        · exact ⟨[.nilptr], by simp [Wf, hu], ⟨_, _, rfl, rfl, rfl, rfl⟩, by simp [vbulks, vbulk, dbulk], by rw [hpk _ trivial]; simp [vbulks, vbulk, dbulk]⟩
        · obtain rfl : m = n := by omega
          simp only [Bool.and_eq_true, decide_eq_true_eq, List.contains_iff_mem] at hok
          obtain ⟨vs, h1, h2, h3, _⟩ := ih _ _ _ hok.2 hy (fun n hn => hw n (by simp only [DataW.weights, hu]; exact hn))
          obtain ⟨_, hcl, hcell⟩ := World.cells?_some hc
          have hpos : 0 < P.cellsOf e := hok.1
          obtain ⟨B, o, spot⟩ := a
          have hs : spot = none := by
            have := hcell 0 hpos
            rw [List.getElem?_eq_getElem (by omega)] at this
            simpa [Addr.add] using World.cell?_spot this
          subst hs
          refine ⟨[.cptr vs], ?_, ⟨_, _, rfl, rfl, ⟨B, o, cs', rfl, fun i v hi => ?_, h2⟩, rfl⟩, by simp only [vbulks, vbulk, dbulk]; omega, by rw [hpk _ trivial]; simp only [vbulk, dbulk]; omega⟩
          · simp only [Wf, hu]; exact .inr ⟨vs, rfl, h2.length.trans hcl, h1⟩
          · have hi' : i < P.cellsOf e := by have := (List.getElem?_eq_some_iff.1 hi).1; omega
            have := hcell i hi'
            rw [Go.WideShapes.add_plain] at this
            exact this.trans hi
      case slice e =>
        rcases DataW.trod_slice hu h with ⟨rfl, rfl⟩ | ⟨a, len, cap, elems, rest, m, hm, rfl, rfl, _, hlc, hcm, hel, hx, _⟩
        · refine ⟨[.sl .full []], by simp [Wf, hu], ⟨_, _, rfl, rfl, ⟨none, 0, [], 0, rfl, rfl, rfl, Nat.le_refl _, fun h => absurd rfl h⟩, rfl⟩, by simp [vbulks, vbulk, dbulk], by rw [hpk _ trivial]; simp [vbulks, vbulk, dbulk]⟩
        · obtain rfl : m = n := by omega
          simp only [Bool.and_eq_true, decide_eq_true_eq, List.contains_iff_mem] at hok
          have hpos : 0 < P.cellsOf e := hok.1
          have hwt : (elems.length + rest.length) * P.bytesOf e ≤ r := by
            have := hw ((elems.length + rest.length) * P.bytesOf e) (by simp only [DataW.weights, hu, List.length_map]; exact List.mem_cons_self)
            exact this
          have each : ∀ i, i < len → ∃ p : List V × List Value, w.cells? base (a.add (i * P.cellsOf e)) (P.cellsOf e) = some p.2 ∧ Wf P r m e p.1 ∧ VRs (Ghost.of w) p.1 p.2 ∧ VC (Ghost.of w) (packE P e p.1) p.2 ∧ ∀ y, elems[i]? = some y → vbulk (packE P e p.1) ≤ dbulk y.1 := by
            intro i hi
            have h1 := hx i hi
            rw [List.getElem?_eq_getElem (by omega)] at h1
            simp only [Option.bind_eq_some_iff] at h1
            obtain ⟨c, h2, h3⟩ := h1
            obtain ⟨vs, h4, h5, _, h7⟩ := ih _ _ _ hok.2 h3 (fun n hn => hw n (by
              simp only [DataW.weights, hu]
              refine List.mem_cons_of_mem _ (List.mem_append_left _ (weightsAll_mem (List.mem_map.2 ⟨elems[i], List.getElem_mem _, rfl⟩) n hn))))
            have h6 := trod_one held h3
            refine ⟨(vs, c), h2, h4, h5, VC_packE h5 ?_, fun y hy => ?_⟩
            · split at h6
              · trivial
              · trivial
              · exact h6.1
            · rw [List.getElem?_eq_getElem (by omega)] at hy
              cases hy; exact h7
          obtain ⟨f, hf⟩ := Go.Deep.choose_lt each
          have hlen : ((List.range len).map fun i => packE P e (f i).1).length = len := by simp
          have hbulk : vbulks ((List.range len).map fun i => packE P e (f i).1) ≤ dbulkAll (elems.map (·.1)) := by
            rw [dbulkAll_map]
            have : ∀ k, k ≤ len → vbulks ((List.range k).map fun i => packE P e (f i).1) ≤ ((elems.take k).map fun y => dbulk y.1).sum := by
              intro k
              induction k with
              | zero => intro _; exact Nat.zero_le _
              | succ k ihk =>
                intro hk
                have hk' : elems[k]? = some elems[k] := List.getElem?_eq_getElem (by omega)
                rw [List.range_succ, List.map_append, vbulks_append, List.take_add_one, hk', List.map_append, List.sum_append]
                have h1 := ihk (by omega)
                have h2 := (hf k (by omega)).2.2.2.2 _ hk'
                simp only [List.map_cons, List.map_nil, vbulks, Option.toList_some, List.sum_cons, List.sum_nil]
                omega
            have := this len (Nat.le_refl _)
            rwa [List.take_of_length_le (by omega)] at this
          refine ⟨[.sl .none ((List.range len).map fun i => packE P e (f i).1)], ?_, ⟨_, _, rfl, rfl, ⟨some a, cap, ((List.range len).map fun i => (f i).2).flatten, P.cellsOf e, by rw [hlen], ?_, trivial, by rw [hlen]; exact hlc, fun hne => ?_⟩, rfl⟩, by simp only [vbulks, vbulk, dbulk]; omega, by rw [hpk _ trivial]; simp only [vbulk, dbulk]; omega⟩
          · simp only [Wf, hu]
            refine .inr ⟨_, rfl, by rw [hlen]; omega, ?_, fun x hx => ?_⟩
            · rw [hlen, ← hel]; exact Nat.le_trans (Nat.mul_le_mul_right _ (Nat.le_add_right _ _)) hwt
            obtain ⟨i, hi, rfl⟩ := List.mem_map.1 hx
            obtain ⟨h1, h2, h3, _⟩ := hf i (List.mem_range.1 hi)
            exact ⟨(f i).1, h3.length.trans (World.cells?_some h1).2.1, h2, rfl⟩
          · have : ∀ l : List Nat, (∀ i ∈ l, i < len) → VRe (Ghost.of w) (P.cellsOf e) (l.map fun i => packE P e (f i).1) (l.map fun i => (f i).2).flatten := by
              intro l
              induction l with
              | nil => intro _; rfl
              | cons i l ihl =>
                intro hi
                obtain ⟨h1, h2, h3, h4, _⟩ := hf i (hi i List.mem_cons_self)
                have hcl := (World.cells?_some h1).2.1
                exact VRe_cons.2 ⟨(f i).2, _, rfl, hcl, by rw [h4.ncells]; exact hcl, h4, ihl fun j hj => hi j (List.mem_cons_of_mem _ hj)⟩
            exact this _ fun i hi => List.mem_range.1 hi
          · have hlen0 : 0 < len := by
              rcases Nat.eq_zero_or_pos len with h0 | h0
              · subst h0; exact absurd rfl hne
              · exact h0
            obtain ⟨B, o, spot⟩ := a
            have hs : spot = none := by
              obtain ⟨h1, _⟩ := hf 0 hlen0
              obtain ⟨_, hcl, hcell⟩ := World.cells?_some h1
              have := hcell 0 hpos
              rw [List.getElem?_eq_getElem (by omega)] at this
              simpa [Addr.add] using World.cell?_spot this
            subst hs
            refine ⟨B, o, rfl, ?_⟩
            -- the row of all cells
            have key : ∀ k, k ≤ len → ∀ i v, (((List.range k).map fun i => (f i).2).flatten)[i]? = some v → w.cell? ⟨B, o + i, none⟩ = some v := by
              intro k
              induction k with
              | zero => intro _ i v hi; simp at hi
              | succ k ihk =>
                intro hk i v hi
                have hlk : (((List.range k).map fun i => (f i).2).flatten).length = k * P.cellsOf e := by
                  have : ∀ m, m ≤ len → (((List.range m).map fun i => (f i).2).flatten).length = m * P.cellsOf e := by
                    intro m
                    induction m with
                    | zero => intro _; simp
                    | succ m ihm =>
                      intro hm
                      rw [List.range_succ, List.map_append, List.flatten_append, List.length_append, ihm (by omega)]
                      have := (World.cells?_some (hf m (by omega)).1).2.1
                      simp [this, Nat.add_mul]
                  exact this k (by omega)
                rw [List.range_succ, List.map_append, List.flatten_append] at hi
                rcases Nat.lt_or_ge i (k * P.cellsOf e) with h2 | h2
                · rw [List.getElem?_append_left (by omega)] at hi
                  exact ihk (by omega) i v hi
                · rw [List.getElem?_append_right (by omega), hlk] at hi
                  simp only [List.map_cons, List.map_nil, List.flatten_cons, List.flatten_nil, List.append_nil] at hi
                  obtain ⟨_, hcl, hcell⟩ := World.cells?_some (hf k (by omega)).1
                  have h3 : i - k * P.cellsOf e < P.cellsOf e := by have := (List.getElem?_eq_some_iff.1 hi).1; omega
                  have := hcell _ h3
                  rw [Go.WideShapes.add_plain, Go.WideShapes.add_plain] at this
                  have h4 := this.trans hi
                  rw [show o + k * P.cellsOf e + (i - k * P.cellsOf e) = o + i by omega] at h4
                  exact h4
            exact key len (Nat.le_refl _)
      case struct fs =>
        obtain ⟨xs, m, hm, rfl, hcl, hxl, hx⟩ := DataW.trod_struct hu h
        obtain rfl : m = n := by omega
        simp only [Bool.and_eq_true, List.all_eq_true, decide_eq_true_eq, List.contains_iff_mem] at hok
        have hcon : contig P fs.toList 0 (P.cellsOf t) = true := hok.1
        have spec : ∀ (l : List Field) (off tot : Nat), contig P l off tot = true → off + ((l.map (·.type)).map P.cellsOf).sum = tot ∧ ∀ i f, l[i]? = some f → f.offset = off + (((l.map (·.type)).take i).map P.cellsOf).sum := by
          intro l
          induction l with
          | nil => intro off tot h; simp [contig] at h; exact ⟨by simpa using h, fun i f hf => by simp at hf⟩
          | cons f l ihl =>
            intro off tot h
            simp only [contig, Bool.and_eq_true, beq_iff_eq] at h
            obtain ⟨h1, h2⟩ := ihl _ _ h.2
            refine ⟨by simp only [List.map_cons, List.sum_cons]; omega, fun i f' hf => ?_⟩
            cases i with
            | zero => simp at hf; subst hf; simp [h.1]
            | succ i => have := h2 i f' (by simpa using hf); simp only [List.map_cons, List.take_succ_cons, List.sum_cons]; omega
        obtain ⟨s1, s2⟩ := spec _ _ _ hcon
        obtain ⟨vs, h1, h2, h3⟩ := parts (fs.toList.map (·.type)) 0 (P.cellsOf t) (fs.toList.map (·.offset)) xs (by simp) (by simp [hxl]) (fun i o ty h1 h2 => by
          simp only [List.getElem?_map, Option.map_eq_some_iff] at h1 h2
          obtain ⟨f, hf, rfl⟩ := h1
          exact s2 i f hf) s1 (by omega) (fun i o ty y h1 h2 h3 => by
          simp only [List.getElem?_map, Option.map_eq_some_iff] at h1 h2
          obtain ⟨f, hf, rfl⟩ := h1
          obtain ⟨f', hf', rfl⟩ := h2
          rw [hf] at hf'; cases hf'
          refine ⟨hok.2 f (List.mem_of_getElem? hf), (hx i f (by simpa using hf)).trans h3, fun n hn => hw n ?_⟩
          simp only [DataW.weights, hu]
          exact DataW.weights_mem_each (j := i) (t := f.type) (d := y.1) (by simp only [List.getElem?_map, hf, Option.map_some]) (by simp only [List.getElem?_map, h3, Option.map_some]) n hn)
        rw [List.drop_zero, Nat.sub_zero, List.take_of_length_le (by omega)] at h2
        have hb : vbulks vs + 1 ≤ dbulk (.agg (xs.map (·.1))) := by simp only [dbulk, dbulkAll_map]; omega
        exact ⟨vs, by simpa only [Wf, hu] using h1, h2, Nat.le_of_succ_le hb, by rw [packE_agg (by rw [hu]; trivial)]; simpa only [vbulk] using hb⟩
      case array m e =>
        obtain ⟨xs, m', hm, rfl, hcl, hxl, hx⟩ := DataW.trod_array hu h
        obtain rfl : m' = n := by omega
        simp only [Bool.and_eq_true, beq_iff_eq, decide_eq_true_eq, List.contains_iff_mem] at hok
        have hsz : P.cellsOf t = m * P.cellsOf e := hok.1
        obtain ⟨vs, h1, h2, h3⟩ := parts (List.replicate m e) 0 (P.cellsOf t) ((List.range m).map (· * P.cellsOf e)) xs (by simp) (by simp [hxl]) (fun i o ty h1 h2 => by
          simp only [List.getElem?_map, Option.map_eq_some_iff] at h1
          obtain ⟨j, hj, rfl⟩ := h1
          have hi := (List.getElem?_eq_some_iff.1 hj)
          simp at hi
          obtain ⟨hi, rfl⟩ := hi
          simp [List.take_replicate, Nat.min_eq_left (Nat.le_of_lt hi)]) (by simp [hsz]) (by omega) (fun i o ty y h1 h2 h3 => by
          simp only [List.getElem?_map, Option.map_eq_some_iff] at h1
          obtain ⟨j, hj, rfl⟩ := h1
          have hi := (List.getElem?_eq_some_iff.1 hj)
          simp at hi
          obtain ⟨hi, rfl⟩ := hi
          rw [List.getElem?_replicate, if_pos hi] at h2
          cases h2
          refine ⟨hok.2, (hx i hi).trans h3, fun n hn => hw n ?_⟩
          simp only [DataW.weights, hu]
          exact weightsAll_mem (List.mem_map.2 ⟨y, List.mem_of_getElem? h3, rfl⟩) n hn)
        rw [List.drop_zero, Nat.sub_zero, List.take_of_length_le (by omega)] at h2
        have hb : vbulks vs + 1 ≤ dbulk (.agg (xs.map (·.1))) := by simp only [dbulk, dbulkAll_map]; omega
        exact ⟨vs, by simpa only [Wf, hu] using h1, h2, Nat.le_of_succ_le hb, by rw [packE_agg (by rw [hu]; trivial)]; simpa only [vbulk] using hb⟩
      all_goals
        rw [hu] at hone
        simp only at hone
        have hk1 : vbulk (packE P t [.any]) ≤ dbulk x.1 := by rw [hpk _ trivial]; simpa only [vbulk] using dbulk_pos x.1
        refine ⟨[.any], by simp [Wf, hu], ?_, by simpa only [vbulks, vbulk] using dbulk_pos x.1, hk1⟩
        match cs, hone with
        | [v], ⟨_, ho⟩ => exact ⟨v, [], rfl, ho v List.mem_cons_self, trivial, rfl⟩
end
end Go.Vm
/- A law: it answers true, and its arguments read as they did. -/
namespace Go.Vm
open Go Go.RowKit Go.ChangeShapes

section
variable {P : Program} {H : Type} {enc : TypeId × Value → H}

theorem trodAll_length {w : World} {base : Nat} {spare : Nat → Bool} {held : Bool} : ∀ {ts : List TypeId} {vs : List Value} {ds : List (DataW H)} {ps : List MemPlace}, DataW.TrodAll enc P w base spare held ts vs ds ps → vs.length = ts.length ∧ ds.length = ts.length
  | [], [], [], _, _ => ⟨rfl, rfl⟩
  | t :: ts, v :: vs, d :: ds, _, ⟨_, _, _, h, _⟩ => by have := trodAll_length h; simp [this.1, this.2]
  | [], [], _ :: _, _, h => h.elim
  | [], _ :: _, _, _, h => h.elim
  | _ :: _, [], _, _, h => h.elim
  | _ :: _, _ :: _, [], _, h => h.elim

/-- Arguments read behind the call as they did, if below the old size nothing has turned. -/
theorem trodAll_stays (hl : laidOutB P = true) {W W' : World} (hb : Below W.heap.size W W') : ∀ {ts : List TypeId} {vs : List Value} {ds : List (DataW H)} {ps : List MemPlace}, (ts.all fun t => P.readableRec t && decide (t < P.types.size)) = true →
    DataW.TrodAll enc P W 0 (fun _ => true) true ts vs ds ps → (∀ x ∈ ps, x.block < W.heap.size) → ∀ sp : Nat → Bool, (∀ x ∈ ps, sp x.block = true) → DataW.TrodAll enc P W' 0 sp true ts vs ds ps
  | [], [], [], _, _, h, _, _, _ => h
  | t :: ts, v :: vs, d :: ds, _, hts, ⟨p, q, h1, h2, e⟩, hlt, sp, hsp => by
    subst e
    simp only [List.all_cons, Bool.and_eq_true, decide_eq_true_eq] at hts
    exact ⟨p, q, WideElems.Trod_stays hl hts.1.1 hts.1.2 h1 (fun x hx => hb.same (hlt x (List.mem_append_left _ hx))) (fun x hx => hsp x (List.mem_append_left _ hx)),
      trodAll_stays hl hb hts.2 h2 (fun x hx => hlt x (List.mem_append_right _ hx)) sp (fun x hx => hsp x (List.mem_append_right _ hx)), rfl⟩
  | [], [], _ :: _, _, _, h, _, _, _ => h.elim
  | [], _ :: _, _, _, _, h, _, _, _ => h.elim
  | _ :: _, [], _, _, _, h, _, _, _ => h.elim
  | _ :: _, _ :: _, [], _, _, h, _, _, _ => h.elim

/-- Arguments that come in. -/
def WfA (P : Program) (r : Nat) : List TypeId → List V → Prop
  | [], avs => avs = []
  | t :: ts, avs => ∃ n cs as, avs = packE P t cs :: as ∧ Wf P r n t cs ∧ WfA P r ts as

/-- What a reading gives the evaluator. -/
theorem trodAll_Wf {T : List TypeId} {r : Nat} (hl : tysOk P T = true) {w : World} {base b0 : Nat} {spare : Nat → Bool} {held : Bool} : ∀ {ts : List TypeId} {vs : List Value} {ds : List (DataW H)} {ps : List MemPlace}, (ts.all fun t => T.contains t) = true →
    (∀ (j : Nat) (t : TypeId) (v : Value), ts[j]? = some t → vs[j]? = some v → Value.okWide P w .any b0 t v) → DataW.TrodAll enc P w base spare held ts vs ds ps → (∀ n ∈ DataW.weightsEach P ts ds, n ≤ r) →
    ∃ avs : List V, WfA P r ts avs ∧ VRl (Ghost.of w) avs vs ∧ vbulks avs ≤ dbulkAll ds
  | [], [], [], _, _, _, _, _ => ⟨[], rfl, rfl, Nat.le_refl _⟩
  | t :: ts, v :: vs, d :: ds, _, hts, hval, ⟨p, q, ⟨fuel, h1⟩, h2, e⟩, hw => by
    simp only [List.all_cons, Bool.and_eq_true, List.contains_iff_mem] at hts
    simp only [DataW.weightsEach, List.mem_append] at hw
    obtain ⟨cs, k1, k2, _, k3⟩ := trod_Wf hl fuel t _ _ hts.1 h1 (fun n hn => hw n (.inl hn))
    obtain ⟨avs, l1, l2, l3⟩ := trodAll_Wf hl hts.2 (fun j t' v' a b => hval (j + 1) t' v' (by simpa using a) (by simpa using b)) h2 (fun n hn => hw n (.inr hn))
    refine ⟨packE P t cs :: avs, ⟨fuel, cs, avs, rfl, k1, l1⟩, ⟨v, vs, rfl, ?_, l2⟩, by simp only [vbulks, dbulkAll]; simp only [] at k3; omega⟩
    have hv := hval 0 t v rfl rfl
    have h3 := trod_one held h1
    have one : v.cells.toList.length = 1 → (∀ xs, v ≠ .agg xs) → VR (Ghost.of w) (cs.headD .any) v := by
      intro hl hne
      have hc : v.cells.toList = [v] := by cases v <;> first | rfl | exact absurd rfl (hne _)
      rw [hc] at k2
      match cs, k2 with
      | [], k2 => simp only [VRs] at k2; cases k2
      | c :: cs, k2 =>
        obtain ⟨u, us, e, _, h5, _⟩ := k2
        simp only [List.cons.injEq] at e
        obtain ⟨rfl, _⟩ := e
        exact h5
    unfold Value.okWide at hv
    unfold packE
    split at hv
    · rename_i fs hu
      obtain ⟨xs, rfl, _⟩ := hv
      rw [hu]
      exact ⟨xs, rfl, k2⟩
    · rename_i m e hu
      obtain ⟨xs, rfl, _⟩ := hv
      rw [hu]
      exact ⟨xs, rfl, k2⟩
    · rename_i hn1 hn2
      split at h3
      · rename_i fs hu; exact absurd hu (hn1 fs)
      · rename_i m e hu; exact absurd hu (hn2 m e)
      · refine one h3.1 fun xs hx => ?_
        subst hx
        unfold Cell.okWide at hv
        split at hv <;> simp_all [Cell.ok]
  | [], [], _ :: _, _, _, _, h, _ => h.elim
  | [], _ :: _, _, _, _, _, h, _ => h.elim
  | _ :: _, [], _, _, _, _, h, _ => h.elim
  | _ :: _, _ :: _, [], _, _, _, h, _ => h.elim

/-- The law's post. -/
theorem post_true {f : Func} {s : ChangeSpec} {apart fresh handsOn again : Bool} {W W' : World} {args : Array Value} {ds : List (DataW H)} {before : List MemPlace} {tb : TypeId}
    (hl : laidOutB P = true) (hts : (f.params.toList.all fun t => P.readableRec t && decide (t < P.types.size)) = true) (hv : s.vars = []) (hrt : f.resultTypes = #[tb]) (htb : P.underlying tb = some .bool)
    (hW : DataW.Whole enc P f.params.toList s.vars apart W args.toList ds [] before) (hfn : s.fn H ds = { results := [.lit (.bool true)], args := ds }) (hB : Below W.heap.size W W') :
    s.post enc P f apart fresh handsOn again W args (.bool true) W' := by
  have hlt := hW.lt
  have hW0 := hW
  obtain ⟨p, q, hA, hV, hbe, hz, hn⟩ := hW
  rw [hv] at hV
  obtain rfl : q = [] := hV
  simp only [List.append_nil] at hbe
  subst hbe
  have hargs : ∀ sp : Nat → Bool, (∀ x ∈ before, sp x.block = true) → DataW.TrodAll enc P W' 0 sp true f.params.toList args.toList ds before := fun sp hsp => trodAll_stays hl hB hts hA hlt sp hsp
  have hres : ∀ (b : Nat) (sp : Nat → Bool) (hd : Bool), DataW.TrodAll enc P W' b sp hd f.resultTypes.toList ((Value.bool true).resultList f.resultTypes.size) [.lit (.bool true)] [] := fun b sp hd => by
    rw [hrt]
    exact ⟨[], [], shut_bool htb _, rfl, rfl⟩
  have hold : ∀ x ∈ before, (fun b => decide (b < W.heap.size)) x.block = true := fun x hx => by simpa using hlt x hx
  refine ⟨ds, [], before, [], before, [], hW0, ?_, ?_, ?_, hB.frame _, fun _ => ⟨?_, [.lit (.bool true)] ++ ds, [], before, ⟨[] ++ before, [], trodAll_append (hargs _ (fun _ _ => rfl)) (hres _ _ _), ?_, by simp, ?_, ?_⟩, ?_⟩⟩
  · simp only [List.append_nil, hfn]; exact hres _ _ _
  · simp only [List.append_nil, hfn]; exact hargs _ hold
  · simp only [List.append_nil, hfn, hv]; rfl
  · exact ok_one hrt rfl (okWide_bool_mk htb _)
  · rw [hv]; rfl
  · intro b off hp
    rw [hB.frozen (hlt _ hp)]
    exact hz b off hp
  · intro ha; simpa using hn ha
  · intro x hx _; exact hx
end

section
variable {C : Cfg}

theorem GR_start (W : World) : GR (Ghost.of W) ⟨[], 0⟩ ⟨W, (Ghost.of W).st⟩ W.heap.size W :=
  ⟨Below.refl _ _, Nat.le_refl _, fun _ _ _ h => h, fun i ob B hi _ => by simp [hget] at hi, fun i j oi oj B hi _ _ _ => by simp [hget] at hi, fun i ob B hi => by simp [hget] at hi, fun _ _ => ⟨rfl, rfl⟩, List.Pairwise.nil, fun p hp => (by cases hp), fun _ _ _ => rfl⟩

/-- What the evaluator says of a law holds of its call. -/
theorem law_calls (hC : COk C) (hP : GlobPure C) (hX : XOk C) {W : World} (hg : GlobR C (Ghost.of W) ⟨W, (Ghost.of W).st⟩ W.heap.size) {k : FuncId} {args : Array Value} {avs : List V} (ha : VRl (Ghost.of W) avs args.toList) (h : Fn C k avs ⟨[], 0⟩ fun v _ => v = .bool true) :
    Calls C.P k args W fun e W' => e = .returned (.bool true) ∧ Below W.heap.size W W' :=
  (h.sound hC hP hX (GR_start W) hg ha).mono fun e W' ⟨v, st', v', g', hq, he, hv, hG⟩ => by
    subst hq
    simp only [VR] at hv
    subst hv
    exact ⟨he, hG.below⟩
end
end Go.Vm
/- Steps: what the rules need at each place. -/
namespace Go.Vm
open Go Go.RowKit

section
variable {C : Cfg} {N : Fr → St → Prop} {Q : Ex → Fr → St → Prop} {b : Code} {f : Fr} {st : St} {i : Nat}

theorem NxE (h : Ev C b f st Q) : Nx (fun f' st' => Ev C b f' st' Q) Q .normal f st := h
theorem NxR (h : Q .ret f st) : Nx N Q .ret f st := h
theorem NxX (h : Q (.exit i) f st) : Nx N Q (.exit i) f st := h
theorem NxG (h : Q (.goto i) f st) : Nx N Q (.goto i) f st := h
theorem BxN (h : Q .normal f st) : Bx i Q .normal f st := h
theorem BxX (h : Q .normal f st) : Bx i Q (.exit i) f st := by simp [Bx]; exact h
theorem BxO {j : Nat} (hj : (j == i) = false) (h : Q (.exit j) f st) : Bx i Q (.exit j) f st := by
  have : j ≠ i := by simpa using hj
  simp [Bx, this]; exact h
theorem BxR (h : Q .ret f st) : Bx i Q .ret f st := h
theorem BxG {l : Nat} (h : Q (.goto l) f st) : Bx i Q (.goto l) f st := h
theorem GxN {M : Nat → Fr → St → Prop} (h : Q .normal f st) : Gx M Q .normal f st := h
theorem GxR {M : Nat → Fr → St → Prop} (h : Q .ret f st) : Gx M Q .ret f st := h
theorem GxX {M : Nat → Fr → St → Prop} (h : Q (.exit i) f st) : Gx M Q (.exit i) f st := h
theorem condT {c : Operand} {a d : Code} (hc : evalO C f c = .bool true) (h : Ev C a f st Q) : Ev C (.cond c a d) f st Q := Ev.cond hc h
theorem condF {c : Operand} {a d : Code} (hc : evalO C f c = .bool false) (h : Ev C d f st Q) : Ev C (.cond c a d) f st Q := Ev.cond hc h
end

section
variable {C : Cfg} {ops : Array Oper} {f f' : Fr} {st st' : St} {Q : Fr → St → Prop} {o : Oper} {rest : List Oper} {v : V}

variable {done rest' : List Nat} {i : Nat} {l : List Nat}
end

section
variable {C : Cfg} {k : FuncId} {fn : Func} {c : Code} {args : List V} {st : St} {Q : V → St → Prop} {n : Nat} {t0 : List (Nat × V)}
end

/-! Operations, one by one. -/
section
variable {C : Cfg}
theorem quiet_rd {f : Fr} {st : St} {op : Op} (h : alOp C st.n (evalO C f) op = none) : quietOp C f st op = (rdOp C st.H (evalO C f) op).map fun v => (v, st) := by
  unfold quietOp
  cases rdOp C st.H (evalO C f) op with
  | some v => rfl
  | none => rw [h]; rfl

theorem opE :
    (∀ f st x, quietOp C f st (.move x) = some (evalO C f x, st)) ∧
    (∀ f st x, quietOp C f st (.assign x) = some (evalO C f x, st)) ∧
    (∀ f st c a b, quietOp C f st (.pick c a b) = (match evalO C f c with | .bool t => some ((if t then evalO C f a else evalO C f b), st) | _ => none)) ∧
    (∀ f st t parts, quietOp C f st (.build t parts) = (buildV C t (parts.toList.map fun p => (p.1, evalO C f p.2))).map fun v => (v, st)) ∧
    (∀ f st t a, quietOp C f st (.load t a) = (loadV C st.H t (evalO C f a)).map fun v => (v, st)) ∧
    (∀ f st x, quietOp C f st (.nilCheck x) = (nilCheckV (evalO C f x)).map fun v => (v, st)) ∧
    (∀ f st op t x y u, quietOp C f st (.binOp op t x y u) = (binV C (isNilWord x || isNilWord y) op t (evalO C f x) (evalO C f y)).map fun v => (v, st)) ∧
    (∀ f st op t x, quietOp C f st (.unOp op t x) = (unV op (evalO C f x)).map fun v => (v, st)) ∧
    (∀ f st t x, quietOp C f st (.makeInterface t x) = (makeIfaceV C t (evalO C f x)).map fun v => (v, st)) ∧
    (∀ f st fn first captured, quietOp C f st (.makeFunc fn first captured) = some (.func fn (first.toList.map (evalO C f)) (captured.toList.map (evalO C f)), st)) ∧
    (∀ f st t x lo hi, quietOp C f st (.slice t x lo hi none) = (sliceV C t (evalO C f x) (lo.map (evalO C f)) (hi.map (evalO C f))).map fun v => (v, st)) ∧
    (∀ f st t x i, quietOp C f st (.fieldAddr t x i) = (fieldAddrV C t (evalO C f x) i).map fun v => (v, st)) ∧
    (∀ f st t x i, quietOp C f st (.field t x i) = (fieldV C t (evalO C f x) i).map fun v => (v, st)) ∧
    (∀ f st t x i, quietOp C f st (.indexAddr t x i) = (indexAddrV C t (evalO C f x) (evalO C f i)).map fun v => (v, st)) ∧
    (∀ f st t x i, quietOp C f st (.index t x i) = (indexV C t (evalO C f x) (evalO C f i)).map fun v => (v, st)) ∧
    (∀ f st t x i ok, quietOp C f st (.lookup t x i ok) = (lookupV C st.H t (evalO C f x) (evalO C f i) ok).map fun v => (v, st)) ∧
    (∀ f st x i, quietOp C f st (.extract x i) = (match evalO C f x with | .tup vs => (vs[i]?).map fun v => (v, st) | _ => none)) ∧
    (∀ f st x t, quietOp C f st (.call { callee := .builtin .len, args := #[x], argTypes := #[t] }) = (lenV C st.H t (evalO C f x)).map fun v => (v, st)) ∧
    (∀ f st s d x, quietOp C f st (.convert s d x) = (match convV C st.H s d (evalO C f x) with
      | some v => some (v, st)
      | none => (alOp C st.n (evalO C f) (.convert s d x)).map fun p => (p.1, st.add p.2))) ∧
    (∀ f st t, quietOp C f st (.alloc t) = ((zeroV C t).bind fun z => (cellsOf z).map fun cs => (.ptr st.n 0, st.add (some (.cells cs))))) ∧
    (∀ f st t x, quietOp C f st (.box t x) = ((cellsOf (evalO C f x)).map fun cs => (.ptr st.n 0, st.add (some (.cells cs))))) ∧
    (∀ f st t len parts, quietOp C f st (.buildSlice t len parts) = (buildSliceV C t len (parts.toList.map fun p => (p.1, evalO C f p.2))).map fun v => (v, st)) ∧
    (∀ f st t, quietOp C f st (.makeMap t none) = some (.map st.n, st.add (some (.map [])))) ∧
    (∀ f st t l c, quietOp C f st (.makeSlice t l c) = (alOp C st.n (evalO C f) (.makeSlice t l c)).map fun p => (p.1, st.add p.2)) := by
  refine ⟨?_, ?_, ?_, ?_, ?_, ?_, ?_, ?_, ?_, ?_, ?_, ?_, ?_, ?_, ?_, ?_, ?_, ?_, ?_, ?_, ?_, ?_, ?_, ?_⟩ <;> intros
  all_goals first
    | rfl
    | exact quiet_rd rfl
    | skip
  · rename_i f st c a b
    rw [quiet_rd rfl]; simp only [rdOp]; cases evalO C f c <;> rfl
  · rename_i f st x i
    rw [quiet_rd rfl]; simp only [rdOp]; cases evalO C f x <;> rfl
  · rename_i f st s d x
    unfold quietOp; simp only [rdOp]
    cases convV C st.H s d (evalO C f x) with
    | some v => rfl
    | none => simp only []; cases alOp C st.n (evalO C f) (.convert s d x) <;> rfl
  · rename_i f st t
    unfold quietOp; simp only [rdOp, alOp]
    cases zeroV C t with
    | none => rfl
    | some z => simp only [Option.bind_some]; cases cellsOf z <;> rfl
  · rename_i f st t x
    unfold quietOp; simp only [rdOp, alOp]
    cases cellsOf (evalO C f x) <;> rfl
  · rename_i f st t len parts
    unfold quietOp; simp only [rdOp, alOp]
    cases buildSliceV C t len _ <;> rfl
  · rename_i f st t l c
    unfold quietOp; simp only [rdOp]
    cases alOp C st.n (evalO C f) (.makeSlice t l c) <;> rfl

theorem binE : (∀ n op t k k' a b, binV C n op t (.int k a) (.int k' b) = (match op with
      | .shl | .shr => shiftBin op k a b
      | _ => if k = k' then intBin op k a b else none)) ∧
    (∀ n op t a b, binV C n op t (.str a) (.str b) = strBin op a b) ∧
    (∀ n t a b, binV C n .eql t (.agg a) (.agg b) = (eqT C 9 t (.agg a) (.agg b)).map fun r => .bool r) ∧
    (∀ n t a b, binV C n .neq t (.agg a) (.agg b) = (eqT C 9 t (.agg a) (.agg b)).map fun r => .bool (!r)) ∧
    (∀ n t a b, binV C n .eql t (.bool a) (.bool b) = (eqT C 9 t (.bool a) (.bool b)).map fun r => .bool r) ∧
    (∀ n t a b, binV C n .neq t (.bool a) (.bool b) = (eqT C 9 t (.bool a) (.bool b)).map fun r => .bool (!r)) :=
  ⟨fun _ _ _ _ _ _ _ => rfl, fun _ _ _ _ _ => rfl, fun _ _ _ _ => rfl, fun _ _ _ _ => rfl, fun _ _ _ _ => rfl, fun _ _ _ _ => rfl⟩

theorem ldE : (∀ H t cs, loadV C H t (.cptr cs) = partV C t cs 0) ∧ (∀ H t b off, loadV C H t (.ptr b off) = (match hget H b with | some (.cells cs) => partV C t cs off | _ => none)) := ⟨fun _ _ _ => rfl, fun _ _ _ _ => rfl⟩
end

theorem stE : (∀ (st : St) ob, st.add (some ob) = ⟨(st.n, ob) :: st.H, st.n + 1⟩) ∧ (∀ st : St, st.add none = st) := ⟨fun _ _ => rfl, fun _ => rfl⟩
theorem hgE : (∀ b, hget [] b = none) ∧ (∀ i o r b, hget ((i, o) :: r) b = if (i == b) = true then some o else hget r b) := ⟨fun _ => rfl, fun _ _ _ _ => rfl⟩

theorem clE : (∀ cs, cellsOf (.agg cs) = some cs) ∧ (∀ b, cellsOf (.bool b) = some [.bool b]) ∧ (∀ k n, cellsOf (.int k n) = some [.int k n]) ∧ (∀ s, cellsOf (.str s) = some [.str s]) ∧ (∀ b o, cellsOf (.ptr b o) = some [.ptr b o]) ∧ (∀ cs, cellsOf (.cptr cs) = some [.cptr cs]) ∧ cellsOf .nilptr = some [.nilptr] ∧
    (∀ t xs, cellsOf (.sl t xs) = some [.sl t xs]) ∧ (∀ a b c d, cellsOf (.msl a b c d) = some [.msl a b c d]) ∧ (∀ b, cellsOf (.map b) = some [.map b]) ∧ cellsOf .nilmap = some [.nilmap] ∧ (∀ a b c, cellsOf (.func a b c) = some [.func a b c]) ∧ cellsOf .nilfunc = some [.nilfunc] ∧ (∀ t x, cellsOf (.iface t x) = some [.iface t x]) ∧ cellsOf .niliface = some [.niliface] :=
  ⟨fun _ => rfl, fun _ => rfl, fun _ _ => rfl, fun _ => rfl, fun _ _ => rfl, fun _ => rfl, rfl, fun _ _ => rfl, fun _ _ _ _ => rfl, fun _ => rfl, rfl, fun _ _ _ => rfl, rfl, fun _ _ => rfl, rfl⟩
theorem ncE : (∀ cs, ncells (.agg cs) = cs.length) ∧ (∀ b, ncells (.bool b) = 1) ∧ (∀ k n, ncells (.int k n) = 1) ∧ (∀ s, ncells (.str s) = 1) ∧ (∀ b o, ncells (.ptr b o) = 1) ∧ (∀ cs, ncells (.cptr cs) = 1) ∧ ncells .nilptr = 1 ∧ (∀ t xs, ncells (.sl t xs) = 1) ∧ (∀ t x, ncells (.iface t x) = 1) ∧ ncells .niliface = 1 :=
  ⟨fun _ => rfl, fun _ => rfl, fun _ _ => rfl, fun _ => rfl, fun _ _ => rfl, fun _ => rfl, rfl, fun _ _ => rfl, fun _ _ => rfl, rfl⟩
theorem szE : (∀ s, szOk s [] = true) ∧ (∀ s x xs, szOk s (x :: xs) = (ncells x == s)) ∧ (∀ l, szOk 1 (ofBytes l) = true) := ⟨fun _ => rfl, fun _ _ _ => rfl, fun l => by cases l <;> rfl⟩

/-! Equations. -/
theorem ofBytes_length (l : List UInt8) : (ofBytes l).length = l.length := by simp [ofBytes]
theorem ofBytes_get (l : List UInt8) (i : Nat) : (ofBytes l)[i]? = (l[i]?).map fun b => V.int .u8 b.toNat := by simp [ofBytes]
theorem ofBytes_take (l : List UInt8) (i : Nat) : (ofBytes l).take i = ofBytes (l.take i) := by simp [ofBytes]
theorem ofBytes_drop (l : List UInt8) (i : Nat) : (ofBytes l).drop i = ofBytes (l.drop i) := by simp [ofBytes]
end Go.Vm
/- Functions that are known by what they answer; a law's contract. -/
namespace Go.Vm
open Go Go.RowKit Go.ChangeShapes

/-- New blocks alone. -/
theorem GR.later {g : Ghost} {st : St} {w0 : W0} {base : Nat} {w w' : World} (h : GR g st w0 base w) (hb : Below w.heap.size w w') : GR g st w0 base w' :=
  ⟨h.below.trans (hb.mono h.lim0), Nat.le_trans h.lim0 hb.size, fun B o v hv => (hb.cell (p := ⟨B, o, none⟩) (h.st_lt hv)).trans (h.stab B o v hv),
    fun i ob B h1 h2 => (h.obj i ob B h1 h2).keep (Ghost.le.refl g) (hb.block B (h.obj i ob B h1 h2).lt) (fun _ x => x), h.excl, h.old, h.lim, h.sorted, h.top, h.lo⟩

section
variable {C : Cfg} {H : Type} {enc : TypeId × Value → H}

/-- **A law's contract: what the evaluator answers at all arguments.** -/
theorem law_contract (hC : COk C) (hP : GlobPure C) (hX : XOk C) {k : FuncId} {f : Func} {s : ChangeSpec} {apart fresh handsOn again : Bool} {tb : TypeId} {T : List TypeId} {r m : Nat}
    (hT : tysOk C.P T = true) (hTs : (f.params.toList.all fun t => T.contains t) = true)
    (hl : laidOutB C.P = true) (hts : (f.params.toList.all fun t => C.P.readableRec t && decide (t < C.P.types.size)) = true) (hv : s.vars = []) (hrt : f.resultTypes = #[tb]) (htb : C.P.underlying tb = some .bool)
    (hs : ∀ ds : List (DataW H), ds.length = f.params.toList.length → s.fn H ds = { results := [.lit (.bool true)], args := ds })
    (h : ∀ avs, WfA C.P r f.params.toList avs → vbulks avs ≤ m → Fn C k avs ⟨[], 0⟩ fun v _ => v = .bool true)
    {W : World} {base : Nat} {args : Array Value} {ds gs : List (DataW H)} {before : List MemPlace}
    (hval : ∀ (j : Nat) t v, f.params[j]? = some t → args[j]? = some v → Value.okWide C.P W .any base t v)
    (hW : DataW.Whole enc C.P f.params.toList s.vars apart W args.toList ds gs before) (hw : (DataW.weightsEach C.P (f.params.toList ++ s.plain.varTypes C.P) (ds ++ gs)).all (· ≤ r) = true) (hm : dbulkAll (ds ++ gs) ≤ m) (hg : GlobR C (Ghost.of W) ⟨W, (Ghost.of W).st⟩ W.heap.size) :
    Calls C.P k args W fun e W' => ∃ v, e = .returned v ∧ s.post enc C.P f apart fresh handsOn again W args v W' := by
  have hW' := hW
  obtain ⟨p, q, hA, hV, hbe, hz, hn⟩ := hW
  have hgs : gs = [] := by
    rw [hv] at hV
    cases gs with
    | nil => rfl
    | cons _ _ => exact hV.elim
  subst hgs
  obtain ⟨hlen, hlen2⟩ := trodAll_length hA
  rw [List.append_nil] at hw hm
  have hw' : ∀ n ∈ DataW.weightsEach C.P f.params.toList ds, n ≤ r := by
    intro n hn
    have key : ∀ (ts us : List TypeId) (ds : List (DataW H)), n ∈ DataW.weightsEach C.P ts ds → n ∈ DataW.weightsEach C.P (ts ++ us) ds := by
      intro ts us
      induction ts with
      | nil => intro ds h; cases ds <;> simp [DataW.weightsEach] at h
      | cons t ts ih =>
        intro ds h
        cases ds with
        | nil => simp [DataW.weightsEach] at h
        | cons d ds =>
          simp only [List.cons_append, DataW.weightsEach, List.mem_append] at h ⊢
          exact h.imp id (ih ds)
    simpa using List.all_eq_true.1 hw n (key _ _ _ hn)
  obtain ⟨avs, h1, h2, h3⟩ := trodAll_Wf (b0 := base) hT hTs (fun j t v a b => hval j t v (by simpa using a) (by simpa using b)) hA hw'
  refine (law_calls hC hP hX hg h2 (h avs h1 (Nat.le_trans h3 hm))).mono fun e W' ⟨he, hB⟩ => ⟨_, he, ?_⟩
  exact post_true hl hts hv hrt htb hW' (hs ds hlen2) hB
end
end Go.Vm
