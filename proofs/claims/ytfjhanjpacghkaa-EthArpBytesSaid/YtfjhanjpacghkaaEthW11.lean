/- The laws of ARP packets, of the program. -/
import Derived.Test.YtfjhanjpacghkaaEthW10
import Derived.Test.YtfjhanjpacghkaaEthT3
set_option linter.unusedSimpArgs false
set_option linter.unusedVariables false
set_option maxRecDepth 100000
namespace Go.Proofs.Ytfjhanjpacghkaa
open Go Go.Vm Go.Proofs Go.ChangeShapes Go.RowKit

theorem arg_arp {n r : Nat} {cs : List V} (h : Wf Try.prog r n 36 cs) : ∃ op sha spa tha tpa, packE Try.prog 36 cs = arpV op sha spa tha tpa ∧ 0 ≤ sha ∧ sha < 18446744073709551616 ∧ 0 ≤ spa ∧ spa < 4294967296 ∧ 0 ≤ tha ∧ tha < 18446744073709551616 ∧ 0 ≤ tpa ∧ tpa < 4294967296 := by
  cases n with
  | zero => exact h.elim
  | succ n =>
    simp only [Wf, Try.underlying36, List.map_cons, List.map_nil, Cat] at h
    obtain ⟨_, _, rfl, _, h1, _, _, rfl, _, h2, _, _, rfl, _, h3, _, _, rfl, _, h4, _, _, rfl, _, h5, rfl⟩ := h
    obtain ⟨op, rfl, _, _⟩ := i64_of h1
    obtain ⟨sha, rfl, a1, a2⟩ := u64_of h2
    obtain ⟨spa, rfl, b1, b2⟩ := u32_of h3
    obtain ⟨tha, rfl, c1, c2⟩ := u64_of h4
    obtain ⟨tpa, rfl, d1, d2⟩ := u32_of h5
    exact ⟨op, sha, spa, tha, tpa, by simp only [packE, Try.underlying36]; rfl, a1, a2, b1, b2, c1, c2, d1, d2⟩

theorem tys_ok3 : tysOk Try.prog [36, 22, 5, 23, 34, 3] = true := by decide +kernel

theorem arps_law : ∀ avs, WfA cx.P reachBytes Try.f5.params.toList avs → Vm.Fn cx 5 avs ⟨[], 0⟩ (fun v _ => v = .bool true) := by
  intro avs h
  obtain ⟨n, cs, r, rfl, h1, h2⟩ := h
  obtain rfl : r = [] := h2
  obtain ⟨u, bs, e, hl, hr, hu⟩ := arg_bytes h1
  have e : packE cx.P 22 cs = .sl u (ofBytes bs) := e
  show Vm.Fn cx 5 [packE cx.P 22 cs] _ _
  rw [e]
  have hL : bs.length ≤ 140737488355328 := Nat.le_trans hr (by decide)
  have key : arpR bs = noArp 20 ∨ arpR bs = noArp 21 ∨ (28 ≤ bs.length ∧ nB bs 0 6 = 4429186564) := by
    unfold arpR
    split
    · exact .inl rfl
    · split
      · exact .inr (.inl rfl)
      · rename_i h1 h2
        exact .inr (.inr ⟨by omega, by simpa using h2⟩)
  cases bs with
  | nil => exact (arps_none u hl 20 (by decide) rfl hu _).use rfl
  | cons b bs =>
    rcases key with hv | hv | ⟨h28, hh⟩
    · exact (arps_no u (b :: bs) hl hL (by simp) 20 (by decide) hv hu _).use rfl
    · exact (arps_no u (b :: bs) hl hL (by simp) 21 (by decide) hv hu _).use rfl
    · exact (arps_ok u (b :: bs) hl hL h28 hh hu _).use rfl

theorem arps_lifted (os : Os) (started : os.Started) (H : Type) (enc : TypeId × Value → H) :
    ReturnsInHanded {} Try.checked os 5 .any (Rows.ethArpsSpec.pre6 enc Try.prog Try.f5 Rows.ethArpsRow.domain false) (Rows.ethArpsSpec.post enc Try.prog Try.f5 false true false false) := by
  refine returnsInHanded_of_change_sized (C := Try.checked) own started (by kernel_rfl) Try.func5
    (ChangeSpec.witness6 (enc := enc) (C := Try.checked) false ⟨#[], #[.slice none 0 0], []⟩ 8 (by kernel_rfl) (by kernel_rfl) (by kernel_rfl) (by kernel_rfl)) ?_
  intro W base args ds gs before hval hW _ hw _
  exact law_contract (C := cx) cx_ok glob_pure libs_ok (fun g i => trivial) (T := [22, 5]) tys_ok (by decide +kernel) laid_ok (by kernel_rfl) rfl (tb := 4) (by kernel_rfl) Try.underlying4
    (fun ds hd => match ds, hd with | [d], _ => rfl) (fun avs h _ => arps_law avs h) hval hW hw (Nat.le_refl _)

theorem arps_holds : Rows.EthArpsSaid :=
  OpenClaim.holds_of_wide 5 Try.f5 rfl rfl rfl rfl rfl rfl rfl ⟨rfl, rfl, rfl, rfl, rfl⟩ rfl rfl rfl rfl rfl (by kernel_rfl) Try.func5 (by kernel_rfl)
    (of_decide_eq_true (by kernel_rfl)) (by unfold Func.isWrapper; first | (rw [if_pos (by decide +kernel)]; kernel_rfl) | (rw [if_neg (by decide +kernel)]; exact ⟨rfl, rfl⟩))
    (fun os started H enc _ => arps_lifted os started H enc)

theorem arpBytes_law : ∀ avs, WfA cx.P reachBytes Try.f6.params.toList avs → Vm.Fn cx 6 avs ⟨[], 0⟩ (fun v _ => v = .bool true) := by
  intro avs h
  obtain ⟨n, cs, r, rfl, h1, n2, cs2, r2, rfl, h2, h3⟩ := h
  obtain rfl : r2 = [] := h3
  obtain ⟨op, sha, spa, tha, tpa, e1, a1, a2, b1, b2, c1, c2, d1, d2⟩ := arg_arp h1
  obtain ⟨u, bs, e2, hl, hr, hu⟩ := arg_bytes h2
  have e1 : packE cx.P 36 cs = arpV op sha spa tha tpa := e1
  have e2 : packE cx.P 22 cs2 = .sl u (ofBytes bs) := e2
  show Vm.Fn cx 6 [packE cx.P 36 cs, packE cx.P 22 cs2] _ _
  rw [e1, e2]
  by_cases ok : okArp op sha tha
  · cases bs with
    | nil => exact (arpBytes_none op sha spa tha tpa a1 a2 b1 b2 c1 c2 d1 d2 u ok hu _).use rfl
    | cons b bs => exact (arpBytes_ok op sha spa tha tpa a1 a2 b1 b2 c1 c2 d1 d2 u (b :: bs) (by simp) (Nat.le_trans hr (by decide)) ok hu _).use rfl
  · exact (arpBytes_bad op sha spa tha tpa a1 a2 b1 b2 c1 c2 d1 d2 u bs ok hu _).use rfl

theorem arpBytes_lifted (os : Os) (started : os.Started) (H : Type) (enc : TypeId × Value → H) :
    ReturnsInHanded {} Try.checked os 6 .any (Rows.ethArpBytesSpec.pre6 enc Try.prog Try.f6 Rows.ethArpBytesRow.domain false) (Rows.ethArpBytesSpec.post enc Try.prog Try.f6 false true false false) := by
  refine returnsInHanded_of_change_sized (C := Try.checked) own started (by kernel_rfl) Try.func6
    (ChangeSpec.witness6 (enc := enc) (C := Try.checked) false ⟨#[], #[.agg #[.int .i64 0, .int .u64 0, .int .u32 0, .int .u64 0, .int .u32 0], .slice none 0 0], []⟩ 8 (by kernel_rfl) (by kernel_rfl) (by kernel_rfl) (by kernel_rfl)) ?_
  intro W base args ds gs before hval hW _ hw _
  exact law_contract (C := cx) cx_ok glob_pure libs_ok (fun g i => trivial) (T := [36, 22, 5, 23, 34, 3]) tys_ok3 (by decide +kernel) laid_ok (by kernel_rfl) rfl (tb := 4) (by kernel_rfl) Try.underlying4
    (fun ds hd => match ds, hd with | [d1, d2], _ => rfl) (fun avs h _ => arpBytes_law avs h) hval hW hw (Nat.le_refl _)

theorem arpBytes_holds : Rows.EthArpBytesSaid :=
  OpenClaim.holds_of_wide 6 Try.f6 rfl rfl rfl rfl rfl rfl rfl ⟨rfl, rfl, rfl, rfl, rfl⟩ rfl rfl rfl rfl rfl (by kernel_rfl) Try.func6 (by kernel_rfl)
    (of_decide_eq_true (by kernel_rfl)) (by unfold Func.isWrapper; first | (rw [if_pos (by decide +kernel)]; kernel_rfl) | (rw [if_neg (by decide +kernel)]; exact ⟨rfl, rfl⟩))
    (fun os started H enc _ => arpBytes_lifted os started H enc)
#print axioms arps_holds
#print axioms arpBytes_holds
end Go.Proofs.Ytfjhanjpacghkaa
