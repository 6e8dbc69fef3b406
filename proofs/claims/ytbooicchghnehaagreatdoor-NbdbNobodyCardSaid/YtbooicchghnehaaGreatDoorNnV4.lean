/- slices.Collect of a map's values; maps.Clone. -/
import Derived.Test.YtbooicchghnehaaGreatDoorNnV3
import Derived.Test.YtbooicchghnehaaGreatDoorN34
set_option linter.unusedSimpArgs false
set_option linter.unusedVariables false
set_option maxRecDepth 1000000
namespace Go.Proofs.YtbooicchghnehaaGreatDoor
open Go Go.Vm Go.Proofs

section
variable {H0 : List (Nat × Ob)} {n0 bx mb : Nat} {es : List (V × V)}
theorem collect14 (hbx : hget H0 bx = some (.cells [.map mb])) (hmb : hget H0 mb = some (.map es)) (hlt : Low n0 H0) (hagg : ∀ e ∈ es, ∃ cs, e.2 = .agg cs ∧ cs.length = 13) (h1 : es.length * byOf cn 31 ≤ 2 ^ 47) (h2 : es.length ≤ 2 ^ 47)
    (hlow : ∀ e ∈ es, lowV n0 (stripAgg e.2) = true) :
    Vm.Fn cn 14 [.func (.func 39) [] [.ptr bx 0]] ⟨H0, n0⟩ (fun v st' => (∃ pre : List (V × V), pre.Perm es ∧ v = .sl .none (pre.map fun e => stripAgg e.2)) ∧ st' = ⟨H0, n0⟩) := by
  refine Vm.Fn.low ?_ ?_ hlt
  · refine goI Tryz.func14 rfl rfl rfl rfl fun t ht => ?_
    have a0 := ht 0 _ rfl
    refine Vm.Ev.seq (Vm.Ev.ops ?_ (by rfl))
    refine sQ (v := .sl .full []) (st' := ⟨H0, n0⟩) (quietR rfl) (Vm.EvOps.nil ?_)
    show Vm.Ev cn _ ⟨tset t 2 (.sl .full []), []⟩ _ _
    refine Vm.Ev.seq (Vm.Ev.ops ?_ (by rfl))
    refine sQ (v := .func (.func 39) [] [.ptr bx 0]) (st' := ⟨H0, n0⟩) (quietR (by show some (tget (tset t 2 _) 0) = _; simp [tgP, a0])) ?_
    refine sX (k := 38) (fi := []) (ca := []) («as» := [.sl .full [], .func (.func 39) [] [.ptr bx 0]]) rfl (by show [_, tget (tset (tset t 2 _) 3 _) 3] ++ [] = _; simp [tgP]; rfl) ?_
    refine (Fn.same (append38 hbx hmb hlt.toLt hagg h1 h2)).mono ?_
    rintro v st' ⟨⟨pre, hp, rfl⟩, m, rfl⟩
    refine sQ (v := .sl .none (pre.map fun e => stripAgg e.2)) (st' := ⟨H0, m⟩) (quietR (by show some (tget (tset _ 4 _) 4) = _; simp [tgP])) (Vm.EvOps.nil ?_)
    show Vm.Ev cn _ _ _ _
    refine Vm.Ev.ret ?_
    show Lv cn Tryz.f14 14 n0 _ .ret _ _
    refine ⟨rfl, [.sl .none (pre.map fun e => stripAgg e.2)], ?_, ?_⟩
    · show (some [tget (tset (tset _ 4 _) 2 _) 2] : Option (List V)) = _
      simp [tgP]
    · refine ⟨⟨pre, hp, rfl⟩, m, ?_⟩
      show (⟨hdrop n0 H0, m⟩ : St) = _
      rw [hlt.toLt.drop]
  · rintro v ⟨pre, hp, rfl⟩
    have : ∀ l : List (V × V), (∀ e ∈ l, e ∈ es) → lowL n0 (l.map fun e => stripAgg e.2) = true := fun l => by
      induction l with
      | nil => intro _; rfl
      | cons e l ih => intro h; simp only [List.map_cons, lowL, Bool.and_eq_true]; exact ⟨hlow e (h e List.mem_cons_self), ih fun e he => h e (List.mem_cons_of_mem _ he)⟩
    simp only [lowV, lowT, Bool.true_and]
    exact this pre fun e he => hp.mem_iff.1 he
/-- maps.Clone of a map. -/
theorem mclone10 (hmb : hgetM H0 mb = some es) : FnS cn 10 [.map mb] ⟨H0, n0⟩ (.map n0) ⟨(n0, .map es) :: H0, n0 + 1⟩ := by
  refine ⟨goI Tryz.func10 rfl rfl rfl rfl fun t ht => ?_⟩
  have a0 := ht 0 _ rfl
  refine Vm.Ev.seq (Vm.Ev.ops ?_ (by rfl))
  refine sQ (v := .nilmap) (st' := ⟨H0, n0⟩) (quietR rfl) (Vm.EvOps.nil ?_)
  show Vm.Ev cn _ ⟨tset t 2 .nilmap, []⟩ _ _
  refine Vm.Ev.seq (Vm.Ev.seq (Vm.Ev.ops ?_ (by rfl)))
  refine sQ (v := .map mb) (st' := ⟨H0, n0⟩) (quietR (by show some (tget (tset t 2 _) 0) = _; simp [tgP, a0])) ?_
  refine sQ (v := .bool false) (st' := ⟨H0, n0⟩) (quietR ?_) (Vm.EvOps.nil ?_)
  · show binV cn true .eql 39 (tget (tset (tset t 2 .nilmap) 3 (.map mb)) 3) .nilmap = _
    rw [show tget (tset (tset t 2 .nilmap) 3 (.map mb)) 3 = .map mb by simp [tgP]]
    rfl
  show Vm.Ev cn _ _ _ _
  refine Vm.Ev.cond (t := false) (by show tget (tset _ 4 _) 4 = _; simp [tgP]) (Vm.Ev.skip ?_)
  show Vm.Ev cn _ ⟨tset (tset (tset t 2 .nilmap) 3 (.map mb)) 4 (.bool false), []⟩ _ _
  refine Vm.Ev.seq (Vm.Ev.ops ?_ (by rfl))
  refine sQ (v := .map mb) (st' := ⟨H0, n0⟩) (quietR (by show some (tget (tset (tset (tset t 2 _) 3 _) 4 _) 0) = _; simp [tgP, a0])) ?_
  refine sQ (v := .iface 39 (.map mb)) (st' := ⟨H0, n0⟩) (quietR (by show makeIfaceV cn 39 (tget (tset _ 5 _) 5) = _; simp [tgP]; rfl)) ?_
  refine Vm.EvOps.mclone (k := 19) (t := 39) (mb := mb) (es := es) rfl (by show tget (tset _ 6 _) 6 = _; simp [tgP]) hmb ?_ ?_
  · exact fun args w => run_callFunc_extern Tryz.func19 (by kernel_rfl) (by kernel_rfl) (by kernel_rfl) (e := Extern.MapsClone.clone) (by kernel_rfl) args w
  refine sWa (v := .map n0) (st' := ⟨(n0, .map es) :: H0, n0 + 1⟩) ?_ ?_
  · show (typeAssertV cn (tget (tset _ 7 _) 7) 39 false).map _ = _
    simp only [tgP]
    rfl
  refine sQ (v := .map n0) (st' := ⟨(n0, .map es) :: H0, n0 + 1⟩) (quietR (by show some (tget (tset _ 8 _) 8) = _; simp [tgP])) (Vm.EvOps.nil ?_)
  show Vm.Ev cn _ _ _ _
  refine Vm.Ev.ret ?_
  show Lv cn Tryz.f10 10 n0 _ .ret _ _
  refine ⟨rfl, [.map n0], ?_, rfl, rfl⟩
  show (some [tget (tset (tset _ 8 _) 2 _) 2] : Option (List V)) = _
  simp [tgP]
end
end Go.Proofs.YtbooicchghnehaaGreatDoor
