/- The law of heads, of the program: what the reading gives, and the call. -/
import Derived.Test.YtfjhanjpacghkaaEthV13
import Derived.Test.YtfjhanjpacghkaaVm21
import Derived.Test.YtfjhanjpacghkaaShelf
import Derived.Test.YtfjhanjpacghkaaRows
import Derived.WalkKit
import Derived.ProofKit
import Derived.OpenShut
import Derived.JoinedCond
import Derived.ChangeSame
import Derived.JoinedOf
set_option linter.unusedSimpArgs false
set_option linter.unusedVariables false
set_option maxRecDepth 100000
namespace Go.Proofs.Ytfjhanjpacghkaa
open Go Go.Vm Go.Proofs Go.ChangeShapes Go.RowKit

theorem tys_ok : tysOk Try.prog [22, 5] = true := by decide +kernel
theorem laid_ok : laidOutB Try.prog = true := by kernel_rfl

/-- A row of bytes. -/
theorem bytes_of {n r : Nat} {xs : List V} (h : ∀ x ∈ xs, ∃ cs, cs.length = Try.prog.cellsOf 5 ∧ Wf Try.prog r n 5 cs ∧ x = packE Try.prog 5 cs) : ∃ bs : List UInt8, xs = ofBytes bs := by
  induction xs with
  | nil => exact ⟨[], rfl⟩
  | cons x xs ih =>
    obtain ⟨bs, rfl⟩ := ih fun y hy => h y (List.mem_cons_of_mem _ hy)
    obtain ⟨cs, _, hw, rfl⟩ := h x List.mem_cons_self
    cases n with
    | zero => exact hw.elim
    | succ n =>
      simp only [Wf, Try.underlying5] at hw
      obtain ⟨i, rfl, hi⟩ := hw
      have hb := bounds_u8 hi
      refine ⟨UInt8.ofNat i.toNat :: bs, ?_⟩
      have : packE Try.prog 5 [.int .u8 i] = .int .u8 i := by simp only [packE, Try.underlying5]; rfl
      rw [this]
      simp only [ofBytes, List.map_cons, UInt8.toNat_ofNat']
      congr 2
      omega

/-- An argument of bytes. -/
theorem arg_bytes {n r : Nat} {cs : List V} (h : Wf Try.prog r n 22 cs) : ∃ u bs, packE Try.prog 22 cs = .sl u (ofBytes bs) ∧ bs.length ≤ maxLen ∧ bs.length ≤ r ∧ unown (.sl u (ofBytes bs)) = .sl u (ofBytes bs) := by
  cases n with
  | zero => exact h.elim
  | succ n =>
    simp only [Wf, Try.underlying22] at h
    simp only [packE, Try.underlying22]
    rcases h with rfl | ⟨xs, rfl, hl, hr, hx⟩
    · exact ⟨.full, [], rfl, Nat.zero_le _, Nat.zero_le _, rfl⟩
    · obtain ⟨bs, rfl⟩ := bytes_of hx
      have h1 : Try.prog.bytesOf 5 = 1 := by kernel_rfl
      rw [h1, Nat.mul_one] at hr
      rw [ofBytes_length] at hl hr
      exact ⟨.none, bs, rfl, hl, hr, rfl⟩

theorem texts_str : ∀ {xs : List V} {l : List (List UInt8)}, textsOf xs = some l → xs = l.map .str
  | [], l, h => by simp only [textsOf, Option.some.injEq] at h; subst h; rfl
  | x :: xs, l, h => by
    cases x <;> simp only [textsOf, Option.map_eq_some_iff, reduceCtorEq] at h
    obtain ⟨r, hr, rfl⟩ := h
    rw [texts_str hr]; rfl

theorem libs_ok : XOk cx := by
  intro k args st v st' h
  have h : libs k args st = some (v, st') := h
  unfold libs at h
  split at h
  · rename_i st tip xs sep
    rw [Option.bind_eq_some_iff] at h
    obtain ⟨l, hl, h⟩ := h
    split at h
    · rename_i hb
      cases h
      rw [texts_str hl] at hb ⊢
      rw [List.length_map] at hb
      exact join_ok (C := cx) (k := 25) ⟨_, Try.func25, by kernel_rfl⟩ Try.strings_Join_none (fun bk o c xs sep w a1 a2 a3 a4 a5 => Try.strings_Join bk o c xs sep w a1 a2 a3 a4 a5) hb.1 hb.2
    · cases h
  · cases h

theorem own : ownKnob Try.prog.godebug = none := by kernel_rfl

theorem heads_law : ∀ avs, WfA cx.P reachBytes Try.f3.params.toList avs → Vm.Fn cx 3 avs ⟨[], 0⟩ (fun v _ => v = .bool true) := by
  intro avs h
  obtain ⟨n, cs, r, rfl, h1, h2⟩ := h
  obtain rfl : r = [] := h2
  obtain ⟨u, bs, e, hl, hr, hu⟩ := arg_bytes h1
  have e : packE cx.P 22 cs = .sl u (ofBytes bs) := e
  show Vm.Fn cx 3 [packE cx.P 22 cs] _ _
  rw [e]
  exact heads_run u bs hl (Nat.le_trans hr (Nat.le_of_lt reachBytes_lt)) hu _

theorem heads_lifted (os : Os) (started : os.Started) (H : Type) (enc : TypeId × Value → H) :
    ReturnsInHanded {} Try.checked os 3 .any (Rows.ethHeadsSpec.pre6 enc Try.prog Try.f3 Rows.ethHeadsRow.domain false) (Rows.ethHeadsSpec.post enc Try.prog Try.f3 false true false false) := by
  refine returnsInHanded_of_change_sized (C := Try.checked) own started (by kernel_rfl) Try.func3
    (ChangeSpec.witness6 (enc := enc) (C := Try.checked) false ⟨#[], #[.slice none 0 0], []⟩ 8 (by kernel_rfl) (by kernel_rfl) (by kernel_rfl) (by kernel_rfl)) ?_
  intro W base args ds gs before hval hW _ hw _
  exact law_contract (C := cx) cx_ok glob_pure libs_ok (fun g i => trivial) (T := [22, 5]) tys_ok (by decide +kernel) laid_ok (by kernel_rfl) rfl (tb := 4) (by kernel_rfl) Try.underlying4
    (fun ds hd => match ds, hd with | [d], _ => rfl) (fun avs h _ => heads_law avs h) hval hW hw (Nat.le_refl _)

theorem heads_holds : Rows.EthHeadsSaid :=
  OpenClaim.holds_of_wide 3 Try.f3 rfl rfl rfl rfl rfl rfl rfl ⟨rfl, rfl, rfl, rfl, rfl⟩ rfl rfl rfl rfl rfl (by kernel_rfl) Try.func3 (by kernel_rfl)
    (of_decide_eq_true (by kernel_rfl)) (by unfold Func.isWrapper; first | (rw [if_pos (by decide +kernel)]; kernel_rfl) | (rw [if_neg (by decide +kernel)]; exact ⟨rfl, rfl⟩))
    (fun os started H enc _ => heads_lifted os started H enc)
#print axioms heads_holds
end Go.Proofs.Ytfjhanjpacghkaa
