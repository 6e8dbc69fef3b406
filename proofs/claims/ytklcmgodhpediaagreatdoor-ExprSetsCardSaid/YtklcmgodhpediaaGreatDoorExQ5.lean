/- Arguments of the law ExprSets. -/
import Derived.Test.YtklcmgodhpediaaGreatDoorExQ4
import Derived.Test.YtklcmgodhpediaaGreatDoorExSD
set_option linter.unusedSimpArgs false
set_option linter.unusedVariables false
set_option maxRecDepth 100000
namespace Go.Proofs.YtklcmgodhpediaaGreatDoor.K
open Go Go.Vm Go.Proofs Go.Proofs.YtklcmgodhpediaaGreatDoor

theorem cat_ints {P : Program} {W : TypeId → List V → Prop} (hW : ∀ t vs, W t vs → ∀ k i, V.int k i ∈ vs → (Lit.int k i).wf = true) : ∀ (ts : List TypeId) (vs : List V), Cat P W ts vs → ∀ k i, V.int k i ∈ vs → (Lit.int k i).wf = true
  | [], vs, h, k, i, hm => by
    obtain rfl : vs = [] := h
    cases hm
  | t :: ts, vs, h, k, i, hm => by
    obtain ⟨p, q, rfl, _, h1, h2⟩ := h
    rcases List.mem_append.1 hm with hm | hm
    · exact hW t p h1 k i hm
    · exact cat_ints hW ts q h2 k i hm
/-- Numbers that come in are in their types' ranges. -/
theorem wf_ints {P : Program} {r : Nat} : ∀ (n : Nat) (t : TypeId) (vs : List V), Wf P r n t vs → ∀ k i, V.int k i ∈ vs → (Lit.int k i).wf = true := by
  intro n
  induction n with
  | zero => intro t vs h; exact h.elim
  | succ n ih =>
    intro t vs h k i hm
    unfold Wf at h
    split at h
    · obtain ⟨b, rfl⟩ := h; simp at hm
    · obtain ⟨j, rfl, hw⟩ := h
      simp only [List.mem_singleton, V.int.injEq] at hm
      obtain ⟨rfl, rfl⟩ := hm
      exact hw
    · obtain ⟨s, rfl, _⟩ := h; simp at hm
    · rcases h with rfl | ⟨cs, rfl, _⟩ <;> simp at hm
    · rcases h with rfl | ⟨cs, rfl, _⟩ <;> simp at hm
    · exact cat_ints (ih ) _ _ h k i hm
    · exact cat_ints (ih ) _ _ h k i hm
    · obtain rfl := h; simp at hm
theorem list_u32 : ∀ {xs : List V}, (∀ x ∈ xs, ∃ v : Nat, v < 4294967296 ∧ x = .int .u32 (v : Nat)) → ∃ vs : List Nat, xs = u32s vs ∧ ∀ v ∈ vs, v < 4294967296
  | [], _ => ⟨[], rfl, fun _ h => by cases h⟩
  | x :: xs, h => by
    obtain ⟨v, hv, rfl⟩ := h x List.mem_cons_self
    obtain ⟨vs, rfl, hvs⟩ := list_u32 (xs := xs) fun y hy => h y (List.mem_cons_of_mem _ hy)
    refine ⟨v :: vs, rfl, fun w hw => ?_⟩
    cases hw with
    | head => exact hv
    | tail _ hw => exact hvs w hw
theorem arg_u32s {n : Nat} {cs : List V} (h : Wf Tryz.prog reachBytes n 50 cs) : ∃ (z : Bool) (vs : List Nat), packE Tryz.prog 50 cs = .sl (tipB z) (u32s vs) ∧ (∀ v ∈ vs, v < 4294967296) ∧ vs.length ≤ 140737488355328 := by
  cases n with
  | zero => exact h.elim
  | succ n =>
    simp only [Wf, Tryz.underlying50] at h
    rcases h with rfl | ⟨xs, rfl, _, hl, hx⟩
    · exact ⟨true, [], by simp only [packE, Tryz.underlying50, isAggT]; rfl, (fun _ h => by cases h), Nat.zero_le _⟩
    · obtain ⟨vs, rfl, hvs⟩ := list_u32 (xs := xs) fun x hxm => by
        obtain ⟨cs, _, hw, rfl⟩ := hx x hxm
        obtain ⟨i, rfl, hwi⟩ := wfI Tryz.underlying28 hw
        have e : 0 ≤ i ∧ i ≤ 4294967295 := by simpa [Lit.wf, IntKind.min, IntKind.max, IntKind.signed, IntKind.bits] using hwi
        refine ⟨i.toNat, by omega, ?_⟩
        simp only [packE, Tryz.underlying28, isAggT]
        show V.int .u32 i = _
        rw [Int.toNat_of_nonneg e.1]
      refine ⟨false, vs, by simp only [packE, Tryz.underlying50, isAggT]; rfl, hvs, ?_⟩
      rw [u32s_len] at hl
      have hb : Tryz.prog.bytesOf 28 = 4 := by kernel_rfl
      rw [hb] at hl
      have : reachBytes ≤ 2 ^ 47 := by decide
      omega
theorem setsA {n n2 : Nat} {cs cs2 : List V} (h1 : Wf Tryz.prog reachBytes n 50 cs) (h2 : Wf Tryz.prog reachBytes n2 41 cs2) (st : St) : FnS YtklcmgodhpediaaGreatDoor.cx 4 [packE Tryz.prog 50 cs, packE Tryz.prog 41 cs2] st (.bool true) st := by
  obtain ⟨z, vs, e1, hv, hm⟩ := arg_u32s h1
  obtain ⟨x, tg, arp, ip, ns, kk, u, e2⟩ := arg_state h2
  have e3 : packE Tryz.prog 41 cs2 = .agg cs2 := by simp only [packE, Tryz.underlying41, isAggT, if_true]
  have e4 : cs2 = stC x tg arp ip ns kk u := by rw [e3] at e2; cases e2; rfl
  have hw := wf_ints n2 41 cs2 h2 .u32 (x 41) (by
    rw [e4]
    have : (stC x tg arp ip ns kk u)[41]? = some (.int .u32 (x 41)) := by rfl
    exact List.mem_of_getElem? this)
  have hr : 0 ≤ x 41 ∧ x 41 ≤ 4294967295 := by simpa [Lit.wf, IntKind.min, IntKind.max, IntKind.signed, IntKind.bits] using hw
  have hR : and64 (rawL 26 x tg) (allN 26) = x 41 := by
    have e : rawL 26 x tg = w64 (x 41) := rfl
    have e5 : w64 (x 41) = x 41 := by show IntKind.u64.wrap _ = _; rw [wU64]; omega
    rw [e, e5, all26]
    exact and_all hr.1 (by omega)
  rw [e1, e2]
  exact tr (lawSets (st_ok x tg arp ip ns kk u) (by kernel_rfl) (rx := x 41) (by kernel_rfl) rfl hR hr.1 (by omega) z vs hv (by omega) st)
end Go.Proofs.YtklcmgodhpediaaGreatDoor.K
