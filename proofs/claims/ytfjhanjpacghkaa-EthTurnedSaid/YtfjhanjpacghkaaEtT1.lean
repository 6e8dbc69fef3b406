/- What the seat's walks share. -/
import Derived.Test.YtfjhanjpacghkaaEtV1
import Derived.Test.YtfjhanjpacghkaaEtV5
import Derived.Test.YtfjhanjpacghkaaN22
set_option linter.unusedSimpArgs false
set_option linter.unusedVariables false
set_option maxRecDepth 100000
namespace Go.Proofs.Ytfjhanjpacghkaa
open Go Go.Vm Go.Proofs

theorem pure_any {C : Cfg} {n k : Nat} {args : List V} {v : V} {s0 : St} (hp : C.pure k = true) (hx : ∀ st, C.X k args st = none) (h : callF C n k args ⟨[], 0⟩ = some (v, s0)) (st : St) : callF C n k args st = some (v, st) := by
  cases n with
  | zero => simp [callF] at h
  | succ n =>
    simp only [callF, hx, hp, if_true] at h ⊢
    split at h
    · cases h
    · split at h
      · cases h
      · split at h
        · rename_i hl
          simp only [hl, if_true]
          split at h
          · rename_i ha
            simp only [ha, if_true]
            split at h
            · split at h
              · rename_i hok
                simp only [hok, if_true]
                split at h
                · split at h
                  · rename_i hv
                    simp only [hv, if_true]
                    cases h; rfl
                  · cases h
                · cases h
              · cases h
            · cases h
          · cases h
        · cases h

theorem lives_closed : (callF cx 60 10 [] ⟨[], 0⟩).any (fun r => sameV r.1 (.bool true)) = true := by decide +kernel

theorem lives_run (st : St) (Q : V → St → Prop) (hQ : Q (.bool true) st) : Vm.Fn cx 10 [] st Q := by
  cases h : callF cx 60 10 [] ⟨[], 0⟩ with
  | none => have := lives_closed; rw [h] at this; cases this
  | some r =>
    obtain ⟨v, s0⟩ := r
    have := lives_closed
    rw [h] at this
    have hv := sameV_eq this
    subst hv
    exact Fn.ofF (pure_any rfl (fun _ => rfl) h st) hQ

theorem glob_pure : GlobPure cx := fun _ => rfl

theorem cx_ok : COk cx := by
  refine ⟨fun t ht => ?_, by decide +kernel, by decide +kernel, fun _ _ _ _ => trivial⟩
  have h : t = 25 ∨ t = 36 := by
    have h : t ∈ [25, 36] := ht
    simpa using h
  rcases h with rfl | rfl
  · exact ⟨by decide +kernel, by decide +kernel⟩
  · exact ⟨by decide +kernel, by decide +kernel⟩

theorem appF {a b : List UInt8} {tip : Tip} {H : List (Nat × Ob)} {n : Nat} (h1 : 0 < b.length) (h2 : a.length + b.length ≤ 140737488355328) :
    appendV cx ⟨H, n⟩ 22 (.sl .full (ofBytes a)) (.sl tip (ofBytes b)) = some (.sl (.own n) (ofBytes (a ++ b)), ⟨(n, .tip 1) :: H, n + 1⟩) := by
  have hz : zeroOk cx 5 1 = true := by decide +kernel
  have hb : byOf cx 5 = 1 := by decide +kernel
  have he : (ofBytes b).isEmpty = false := by cases b <;> simp [ofBytes] at h1 ⊢
  have hc : 0 < 1 ∧ True ∧ zeroOk cx 5 1 = true ∧ ((ofBytes a).length + (ofBytes b).length) * byOf cx 5 ≤ 2 ^ 47 ∧ (ofBytes a).length + (ofBytes b).length ≤ 2 ^ 47 := by
    refine ⟨by omega, trivial, hz, ?_, ?_⟩ <;> simp [hb, ofBytes_length] <;> omega
  simp only [appendV, show cx.mutT 22 = false from rfl, tyE, addedV, szE, if_true, he, Bool.false_eq_true, if_false]
  rw [if_pos hc, map_stripAgg_ofBytes, ofBytes_append]

theorem appE {b : List UInt8} {tip : Tip} {H : List (Nat × Ob)} {n : Nat} (h1 : 0 < b.length) (h2 : b.length ≤ 140737488355328) :
    appendV cx ⟨H, n⟩ 22 (.sl .full []) (.sl tip (ofBytes b)) = some (.sl (.own n) (ofBytes b), ⟨(n, .tip 1) :: H, n + 1⟩) := appF (a := []) h1 (by simpa using h2)

theorem appO {a b : List UInt8} {tip : Tip} {H : List (Nat × Ob)} {n k : Nat} (h1 : 0 < b.length) (h2 : a.length + b.length ≤ 140737488355328) :
    appendV cx ⟨(k, .tip 1) :: H, n⟩ 22 (.sl (.own k) (ofBytes a)) (.sl tip (ofBytes b)) = some (.sl (.own n) (ofBytes (a ++ b)), ⟨(n, .tip 1) :: H, n + 1⟩) := by
  have hz : zeroOk cx 5 1 = true := by decide +kernel
  have hb : byOf cx 5 = 1 := by decide +kernel
  have he : (ofBytes b).isEmpty = false := by cases b <;> simp [ofBytes] at h1 ⊢
  have hc : 0 < 1 ∧ True ∧ zeroOk cx 5 1 = true ∧ ((ofBytes a).length + (ofBytes b).length) * byOf cx 5 ≤ 2 ^ 47 ∧ (ofBytes a).length + (ofBytes b).length ≤ 2 ^ 47 := by
    refine ⟨by omega, trivial, hz, ?_, ?_⟩ <;> simp [hb, ofBytes_length] <;> omega
  simp only [appendV, show cx.mutT 22 = false from rfl, tyE, addedV, szE, if_true, he, Bool.false_eq_true, if_false]
  rw [if_pos hc, map_stripAgg_ofBytes, ofBytes_append]
  simp only [hgE, beq_self_eq_true, if_true, hdel]

/-- Nothing is added. -/
theorem appN {tip u : Tip} {a : List UInt8} {st : St} : appendV cx st 22 (.sl u (ofBytes a)) (.sl tip (ofBytes [])) = some (.sl u (ofBytes a), st) := by
  simp only [appendV, show cx.mutT 22 = false from rfl, tyE, addedV]
  rfl

theorem bs0 : buildSliceV cx 22 0 [] = some (.sl .full []) := by rfl
theorem bs2 : buildSliceV cx 22 2 [(0, .int .u8 129), (1, .int .u8 0)] = some (.sl .full (ofBytes (bytesL 33024 2))) := by rfl


theorem livesS (st : St) : FnS cx 10 [] st (.bool true) st := ⟨lives_run st _ ⟨rfl, rfl⟩⟩
theorem convS {H : List (Nat × Ob)} {tip : Tip} {l : List UInt8} : convV cx H 22 9 (.sl tip (ofBytes l)) = some (.str l) := by
  have : isU8 cx 5 = true := by decide +kernel
  simp only [convV, tyE, this, if_true, toBytes_ofBytes]; rfl
theorem convE {H : List (Nat × Ob)} {tip : Tip} : convV cx H 22 9 (.sl tip []) = some (.str []) := convS (l := [])
end Go.Proofs.Ytfjhanjpacghkaa
