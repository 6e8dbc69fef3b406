/- The law of another byte, of the program. -/
import Derived.Test.YtfjhanjpacghkaaEtM3
import Derived.Test.YtfjhanjpacghkaaEtM4
import Derived.Test.YtfjhanjpacghkaaEtT3
set_option linter.unusedSimpArgs false
set_option linter.unusedVariables false
set_option maxRecDepth 100000
namespace Go.Proofs.Ytfjhanjpacghkaa
open Go Go.Vm Go.Proofs Go.ChangeShapes Go.RowKit

theorem arg_eth {n r : Nat} {cs : List V} (h : Wf Try.prog r n 25 cs) : ∃ d s tg tag ty, packE Try.prog 25 cs = ethV d s tg tag ty ∧ 0 ≤ d ∧ d < 18446744073709551616 ∧ 0 ≤ s ∧ s < 18446744073709551616 := by
  cases n with
  | zero => exact h.elim
  | succ n =>
    simp only [Wf, Try.underlying25, List.map_cons, List.map_nil, Cat] at h
    obtain ⟨_, _, rfl, _, h1, _, _, rfl, _, h2, _, _, rfl, _, h3, _, _, rfl, _, h4, _, _, rfl, _, h5, rfl⟩ := h
    obtain ⟨d, rfl, d1, d2⟩ := u64_of h1
    obtain ⟨s, rfl, s1, s2⟩ := u64_of h2
    obtain ⟨tg, rfl⟩ := bool_of h3
    obtain ⟨tag, rfl, _, _⟩ := i64_of h4
    obtain ⟨ty, rfl, _, _⟩ := i64_of h5
    exact ⟨d, s, tg, tag, ty, by simp only [packE, Try.underlying25]; rfl, d1, d2, s1, s2⟩

theorem arg_arp {n r : Nat} {cs : List V} (h : Wf Try.prog r n 36 cs) : ∃ op sha spa tha tpa, packE Try.prog 36 cs = arpV op sha spa tha tpa ∧ 0 ≤ sha ∧ sha < 18446744073709551616 ∧ 0 ≤ spa ∧ spa < 4294967296 ∧ 0 ≤ tha ∧ tha < 18446744073709551616 ∧ 0 ≤ tpa ∧ tpa < 4294967296 := by
  cases n with
  | zero => exact h.elim
  | succ n =>
    simp only [Wf, Try.underlying36, List.map_cons, List.map_nil, Cat] at h
    obtain ⟨_, _, rfl, _, h1, _, _, rfl, _, h2, _, _, rfl, _, h3, _, _, rfl, _, h4, _, _, rfl, _, h5, rfl⟩ := h
    obtain ⟨op, rfl, _, _⟩ := i64_of h1
    obtain ⟨sha, rfl, a1, a2⟩ := u64_of h2
    obtain ⟨spa, rfl, b1, b2⟩ := u32_of h3
    obtain ⟨tha, rfl, c1, c2⟩ := u64_of h4
    obtain ⟨tpa, rfl, d1, d2⟩ := u32_of h5
    exact ⟨op, sha, spa, tha, tpa, by simp only [packE, Try.underlying36]; rfl, a1, a2, b1, b2, c1, c2, d1, d2⟩


theorem u8_of {n r : Nat} {cs : List V} (h : Wf Try.prog r n 5 cs) : ∃ x, cs = [.int .u8 x] ∧ 0 ≤ x ∧ x < 256 := by
  cases n with
  | zero => exact h.elim
  | succ n =>
    simp only [Wf, Try.underlying5] at h
    obtain ⟨i, rfl, hi⟩ := h
    have hb := bounds_u8 hi
    exact ⟨i, rfl, by omega, by omega⟩

theorem tys_ok7 : tysOk Try.prog [25, 36, 3, 5, 4, 23, 34] = true := by decide +kernel

theorem turned_law : ∀ avs, WfA M.cx.P reachBytes Try.f7.params.toList avs → Vm.Fn M.cx 7 avs ⟨[], 0⟩ (fun v _ => v = .bool true) := by
  intro avs h
  obtain ⟨n, cs, r, rfl, h1, n2, cs2, r2, rfl, h2, n3, cs3, r3, rfl, h3, n4, cs4, r4, rfl, h4, h5⟩ := h
  obtain rfl : r4 = [] := h5
  obtain ⟨d, sr, tg, tag, ty, e1, z1, z2, z3, z4⟩ := arg_eth h1
  obtain ⟨op, sha, spa, tha, tpa, e2, a1, a2, b1, b2, c1, c2, d1, d2⟩ := arg_arp h2
  obtain ⟨at_, rfl, q1, q2⟩ := i64_of h3
  obtain ⟨by_, rfl, y1, y2⟩ := u8_of h4
  have e1 : packE M.cx.P 25 cs = ethV d sr tg tag ty := e1
  have e2 : packE M.cx.P 36 cs2 = arpV op sha spa tha tpa := e2
  have e3 : packE M.cx.P 3 [.int .i64 at_] = .int .i64 at_ := by
    show packE Try.prog 3 _ = _
    simp only [packE, Try.underlying3]; rfl
  have e4 : packE M.cx.P 5 [.int .u8 by_] = .int .u8 by_ := by
    show packE Try.prog 5 _ = _
    simp only [packE, Try.underlying5]; rfl
  show Vm.Fn M.cx 7 [packE M.cx.P 25 cs, packE M.cx.P 36 cs2, packE M.cx.P 3 [.int .i64 at_], packE M.cx.P 5 [.int .u8 by_]] _ _
  rw [e1, e2, e3, e4]
  have get : ∀ {L : List UInt8} {n k : Nat}, L.length = n → k < n → ∃ b, L[k]? = some b := fun {L n k} hl hk => ⟨L[k]'(by omega), List.getElem?_eq_getElem (by omega)⟩
  have lA := encA_length op sha spa tha tpa
  have m1 : -28 < Int.tmod at_ 28 := by have := Int.lt_tmod_of_pos at_ (b := 28) (by omega); omega
  have m2 : Int.tmod at_ 28 < 28 := Int.tmod_lt_of_pos at_ (by omega)
  cases tg
  · by_cases ano : sha ≤ 281474976710655 ∧ tha ≤ 281474976710655 ∧ 0 ≤ op ∧ op ≤ 65535
    · obtain ⟨k1, k2, k3, k4⟩ := ano
      by_cases hno : d ≤ 281474976710655 ∧ sr ≤ 281474976710655 ∧ (0 ≤ tag ∧ tag ≤ 65535) ∧ (0 ≤ ty ∧ ty ≤ 65535) ∧ ty ≠ 33024 ∧ tag = 0
      · obtain ⟨g1, g2, g3, g4, g5, rfl⟩ := hno
        by_cases hz : by_ = 0
        · subst hz
          exact (M.same_fokok d sr 0 ty z1 z3 g1 g2 g4 g5 op sha spa tha tpa a1 a2 b1 b2 c1 c2 d1 d2 k1 k2 k3 k4 at_ 0 _).use rfl
        have lL := encL_length d sr false 0 ty
        simp only [if_true, Bool.false_eq_true, if_false] at lL
        have m3 : -14 < Int.tmod at_ 14 := by have := Int.lt_tmod_of_pos at_ (b := 14) (by omega); omega
        have m4 : Int.tmod at_ 14 < 14 := Int.tmod_lt_of_pos at_ (by omega)
        rcases Int.lt_or_le (Int.tmod at_ 14) 0 with s1 | s1 <;> rcases Int.lt_or_le (Int.tmod at_ 28) 0 with s2 | s2
        · obtain ⟨x, hx⟩ := get (k := (Int.tmod at_ 14 + 14).toNat) lL (by omega)
          obtain ⟨y, hy⟩ := get (k := (Int.tmod at_ 28 + 28).toNat) lA (by omega)
          exact (M.turned_fnn d sr 0 ty z1 z3 g1 g2 g4 g5 op sha spa tha tpa a1 a2 b1 b2 c1 c2 d1 d2 k1 k2 k3 k4 at_ by_ (by omega) y2 s1 s2 x y hx hy _).use rfl
        · obtain ⟨x, hx⟩ := get (k := (Int.tmod at_ 14 + 14).toNat) lL (by omega)
          obtain ⟨y, hy⟩ := get (k := (Int.tmod at_ 28).toNat) lA (by omega)
          exact (M.turned_fnp d sr 0 ty z1 z3 g1 g2 g4 g5 op sha spa tha tpa a1 a2 b1 b2 c1 c2 d1 d2 k1 k2 k3 k4 at_ by_ (by omega) y2 s1 s2 x y hx hy _).use rfl
        · obtain ⟨x, hx⟩ := get (k := (Int.tmod at_ 14).toNat) lL (by omega)
          obtain ⟨y, hy⟩ := get (k := (Int.tmod at_ 28 + 28).toNat) lA (by omega)
          exact (M.turned_fpn d sr 0 ty z1 z3 g1 g2 g4 g5 op sha spa tha tpa a1 a2 b1 b2 c1 c2 d1 d2 k1 k2 k3 k4 at_ by_ (by omega) y2 s1 s2 x y hx hy _).use rfl
        · obtain ⟨x, hx⟩ := get (k := (Int.tmod at_ 14).toNat) lL (by omega)
          obtain ⟨y, hy⟩ := get (k := (Int.tmod at_ 28).toNat) lA (by omega)
          exact (M.turned_fpp d sr 0 ty z1 z3 g1 g2 g4 g5 op sha spa tha tpa a1 a2 b1 b2 c1 c2 d1 d2 k1 k2 k3 k4 at_ by_ (by omega) y2 s1 s2 x y hx hy _).use rfl
      · exact (M.same_fnook d sr tag ty z1 z3 hno op sha spa tha tpa a1 a2 b1 b2 c1 c2 d1 d2 k1 k2 k3 k4 at_ by_ _).use rfl
    · by_cases hno : d ≤ 281474976710655 ∧ sr ≤ 281474976710655 ∧ (0 ≤ tag ∧ tag ≤ 65535) ∧ (0 ≤ ty ∧ ty ≤ 65535) ∧ ty ≠ 33024 ∧ tag = 0
      · obtain ⟨g1, g2, g3, g4, g5, rfl⟩ := hno
        exact (M.same_fokno d sr 0 ty z1 z3 g1 g2 g4 g5 op sha spa tha tpa a1 a2 b1 b2 c1 c2 d1 d2 ano at_ by_ _).use rfl
      · exact (M.same_fnono d sr tag ty z1 z3 hno op sha spa tha tpa a1 a2 b1 b2 c1 c2 d1 d2 ano at_ by_ _).use rfl
  · by_cases ano : sha ≤ 281474976710655 ∧ tha ≤ 281474976710655 ∧ 0 ≤ op ∧ op ≤ 65535
    · obtain ⟨k1, k2, k3, k4⟩ := ano
      by_cases hno : d ≤ 281474976710655 ∧ sr ≤ 281474976710655 ∧ (0 ≤ tag ∧ tag ≤ 65535) ∧ (0 ≤ ty ∧ ty ≤ 65535) ∧ ty ≠ 33024
      · obtain ⟨g1, g2, g3, g4, g5⟩ := hno
        by_cases hz : by_ = 0
        · subst hz
          exact (M.same_tokok d sr tag ty z1 z3 g1 g2 g3 g4 g5 op sha spa tha tpa a1 a2 b1 b2 c1 c2 d1 d2 k1 k2 k3 k4 at_ 0 _).use rfl
        have lL := encL_length d sr true tag ty
        simp only [if_true, Bool.false_eq_true, if_false] at lL
        have m3 : -18 < Int.tmod at_ 18 := by have := Int.lt_tmod_of_pos at_ (b := 18) (by omega); omega
        have m4 : Int.tmod at_ 18 < 18 := Int.tmod_lt_of_pos at_ (by omega)
        rcases Int.lt_or_le (Int.tmod at_ 18) 0 with s1 | s1 <;> rcases Int.lt_or_le (Int.tmod at_ 28) 0 with s2 | s2
        · obtain ⟨x, hx⟩ := get (k := (Int.tmod at_ 18 + 18).toNat) lL (by omega)
          obtain ⟨y, hy⟩ := get (k := (Int.tmod at_ 28 + 28).toNat) lA (by omega)
          exact (M.turned_tnn d sr tag ty z1 z3 g1 g2 g3 g4 g5 op sha spa tha tpa a1 a2 b1 b2 c1 c2 d1 d2 k1 k2 k3 k4 at_ by_ (by omega) y2 s1 s2 x y hx hy _).use rfl
        · obtain ⟨x, hx⟩ := get (k := (Int.tmod at_ 18 + 18).toNat) lL (by omega)
          obtain ⟨y, hy⟩ := get (k := (Int.tmod at_ 28).toNat) lA (by omega)
          exact (M.turned_tnp d sr tag ty z1 z3 g1 g2 g3 g4 g5 op sha spa tha tpa a1 a2 b1 b2 c1 c2 d1 d2 k1 k2 k3 k4 at_ by_ (by omega) y2 s1 s2 x y hx hy _).use rfl
        · obtain ⟨x, hx⟩ := get (k := (Int.tmod at_ 18).toNat) lL (by omega)
          obtain ⟨y, hy⟩ := get (k := (Int.tmod at_ 28 + 28).toNat) lA (by omega)
          exact (M.turned_tpn d sr tag ty z1 z3 g1 g2 g3 g4 g5 op sha spa tha tpa a1 a2 b1 b2 c1 c2 d1 d2 k1 k2 k3 k4 at_ by_ (by omega) y2 s1 s2 x y hx hy _).use rfl
        · obtain ⟨x, hx⟩ := get (k := (Int.tmod at_ 18).toNat) lL (by omega)
          obtain ⟨y, hy⟩ := get (k := (Int.tmod at_ 28).toNat) lA (by omega)
          exact (M.turned_tpp d sr tag ty z1 z3 g1 g2 g3 g4 g5 op sha spa tha tpa a1 a2 b1 b2 c1 c2 d1 d2 k1 k2 k3 k4 at_ by_ (by omega) y2 s1 s2 x y hx hy _).use rfl
      · exact (M.same_tnook d sr tag ty z1 z3 hno op sha spa tha tpa a1 a2 b1 b2 c1 c2 d1 d2 k1 k2 k3 k4 at_ by_ _).use rfl
    · by_cases hno : d ≤ 281474976710655 ∧ sr ≤ 281474976710655 ∧ (0 ≤ tag ∧ tag ≤ 65535) ∧ (0 ≤ ty ∧ ty ≤ 65535) ∧ ty ≠ 33024
      · obtain ⟨g1, g2, g3, g4, g5⟩ := hno
        exact (M.same_tokno d sr tag ty z1 z3 g1 g2 g3 g4 g5 op sha spa tha tpa a1 a2 b1 b2 c1 c2 d1 d2 ano at_ by_ _).use rfl
      · exact (M.same_tnono d sr tag ty z1 z3 hno op sha spa tha tpa a1 a2 b1 b2 c1 c2 d1 d2 ano at_ by_ _).use rfl

theorem turned_lifted (os : Os) (started : os.Started) (H : Type) (enc : TypeId × Value → H) :
    ReturnsInHanded {} Try.checked os 7 .any (Rows.ethTurnedSpec.pre6 enc Try.prog Try.f7 Rows.ethTurnedRow.domain false) (Rows.ethTurnedSpec.post enc Try.prog Try.f7 false true false false) := by
  refine returnsInHanded_of_change_sized (C := Try.checked) own started (by kernel_rfl) Try.func7
    (ChangeSpec.witness6 (enc := enc) (C := Try.checked) false ⟨#[], #[.agg #[.int .u64 0, .int .u64 0, .bool false, .int .i64 0, .int .i64 0], .agg #[.int .i64 0, .int .u64 0, .int .u32 0, .int .u64 0, .int .u32 0], .int .i64 0, .int .u8 0], []⟩ 8 (by kernel_rfl) (by kernel_rfl) (by kernel_rfl) (by kernel_rfl)) ?_
  intro W base args ds gs before hval hW _ hw _
  exact law_contract (C := M.cx) M.cx_ok M.glob_pure (XOk.none fun _ _ _ => rfl) (T := [25, 36, 3, 5, 4, 23, 34]) tys_ok7 (by decide +kernel) laid_ok (by kernel_rfl) rfl (tb := 4) (by kernel_rfl) Try.underlying4
    (fun ds hd => match ds, hd with | [d1, d2, d3, d4], _ => rfl) (fun avs h _ => turned_law avs h) hval hW hw (Nat.le_refl _) ⟨fun i => trivial, trivial, Nat.zero_le _⟩

theorem turned_holds : Rows.EthTurnedSaid :=
  OpenClaim.holds_of_wide 7 Try.f7 rfl rfl rfl rfl rfl rfl rfl ⟨rfl, rfl, rfl, rfl, rfl⟩ rfl rfl rfl rfl rfl (by kernel_rfl) Try.func7 (by kernel_rfl)
    (of_decide_eq_true (by kernel_rfl)) (by unfold Func.isWrapper; first | (rw [if_pos (by decide +kernel)]; kernel_rfl) | (rw [if_neg (by decide +kernel)]; exact ⟨rfl, rfl⟩))
    (fun os started H enc _ => turned_lifted os started H enc)
#print axioms turned_holds
end Go.Proofs.Ytfjhanjpacghkaa
