/- The law ExprPrints, of the program: what is printed is as the document has it, and is read again, wherever what is given is of bulk at most 1048576. -/
import Derived.Test.YtklcmgodhpediaaGreatDoorExT1
import Derived.Test.YtklcmgodhpediaaGreatDoorExR7
import Derived.Test.YtklcmgodhpediaaGreatDoorExSD
import Derived.Test.YtklcmgodhpediaaGreatDoorN18
import Derived.Test.YtklcmgodhpediaaGreatDoorCards
import Derived.Test.YtklcmgodhpediaaGreatDoorTie
import Derived.WalkKit
import Derived.ProofKit
import Derived.OpenShut
import Derived.Lay
import Derived.Shelf.Vars
import Derived.Deep.DeepHandedRow
import Derived.Lib.LaidTab
import Derived.LaidSub
import Derived.SevenTiedAt
set_option linter.unusedSimpArgs false
set_option linter.unusedVariables false
set_option maxRecDepth 1000000
namespace Go.Proofs.YtklcmgodhpediaaGreatDoor
open Go Go.Vm Go.Proofs Go.ChangeShapes Go.RowKit

mutual
theorem bulk_eq {H : Type} : ∀ d : DataW H, Rows.uptoBulk d = dbulk d
  | .lit l => by cases l <;> simp only [Rows.uptoBulk, dbulk]
  | .nil => by simp only [Rows.uptoBulk, dbulk]
  | .ptr d => by simp only [Rows.uptoBulk, dbulk, bulk_eq d]
  | .slice a b => by simp only [Rows.uptoBulk, dbulk, bulk_all a, bulk_all b]
  | .agg a => by simp only [Rows.uptoBulk, dbulk, bulk_all a]
  | .iface _ d => by simp only [Rows.uptoBulk, dbulk, bulk_eq d]
  | .map es => by simp only [Rows.uptoBulk, dbulk, bulk_ents es]
  | .held _ => by simp only [Rows.uptoBulk, dbulk]
theorem bulk_all {H : Type} : ∀ l : List (DataW H), Rows.uptoBulkAll l = dbulkAll l
  | [] => by simp only [Rows.uptoBulkAll, dbulkAll]
  | d :: r => by simp only [Rows.uptoBulkAll, dbulkAll, bulk_eq d, bulk_all r]
theorem bulk_ents {H : Type} : ∀ l : List (Lit × DataW H), Rows.uptoBulkEntries l = dbulkEntries l
  | [] => by simp only [Rows.uptoBulkEntries, dbulkEntries]
  | x :: r => by simp only [Rows.uptoBulkEntries, dbulkEntries, bulk_ent x, bulk_ents r]
theorem bulk_ent {H : Type} : ∀ x : Lit × DataW H, Rows.uptoBulkEntry x = dbulkEntry x
  | (l, d) => by cases l <;> simp only [Rows.uptoBulkEntry, dbulkEntry, bulk_eq d]
end
theorem bulk_of {H : Type} {l : List (DataW H)} (h : Rows.uptoSmall H l = true) : dbulkAll l ≤ 1048576 := by
  have := of_decide_eq_true h
  rw [bulk_all] at this
  exact this

theorem nd_bulk : ∀ e : E, P.ndE e ≤ vbulk e.c := E.ind fun k f o v m z ps ih => by
  have h : ∀ ps : List E, (∀ q ∈ ps, P.ndE q ≤ vbulk q.c) → P.ndEs ps ≤ vbulks (E.cs ps) := by
    intro ps
    induction ps with
    | nil => intro _; exact Nat.zero_le _
    | cons a r ihr =>
      intro h
      have h1 := h a List.mem_cons_self
      have h2 := ihr fun q hq => h q (List.mem_cons_of_mem _ hq)
      simp only [P.ndEs, E.cs, vbulks]; omega
  have := h ps ih
  simp only [P.ndE, E.c, vbulk, vbulks]; omega
theorem the_law : ∀ avs, WfA cx.P reachBytes Tryz.f3.params.toList avs → vbulks avs ≤ 1048576 → Vm.Fn cx 3 avs ⟨[], 0⟩ (fun v _ => v = .bool true) := by
  intro avs h hb
  obtain ⟨n, cs, r, rfl, h1, n2, cs2, r2, rfl, h2, h3⟩ := h
  obtain rfl : r2 = [] := h3
  obtain ⟨e, he, hok⟩ := arg_expr n cs h1
  obtain ⟨x, tg, arp, ip, ns, kk, u, hs⟩ := arg_state h2
  have he : packE cx.P 25 cs = e.c := he
  have hs : packE cx.P 41 cs2 = .agg (stC x tg arp ip ns kk u) := hs
  rw [show packE cx.P 25 cs = e.c from he] at hb
  show Vm.Fn cx 3 [packE cx.P 25 cs, packE cx.P 41 cs2] _ _
  rw [he, hs]
  have hn := nd_bulk e
  simp only [vbulks] at hb
  exact (P.lawPrints (st_ok x tg arp ip ns kk u) e hok (fun _ => by omega) ⟨[], 0⟩).ex.mono fun v st hv => hv.1

theorem own : ownKnob Tryz.prog.godebug = none := by kernel_rfl
theorem laid_ok : laidOutB Tryz.prog = true := by kernel_rfl
theorem tys_ok : tysOk Tryz.prog [25, 3, 22, 23, 41, 36, 27, 4, 30, 28, 32, 9, 34, 37, 39] = true := by decide +kernel
def laidL : List (String × DataW Unit) := Rows.exprPrintsUptoRow.laid
noncomputable def startW (os : Os) : World := World.laidAll Tryz.prog os laidL
theorem start_shaped (os : Os) (args : Array Value) (hv : ((startW os).forCall (fun _ _ => 0) ⟨#[], args, []⟩).variablesZipB Tryz.prog = true)
    (hr : ((((startW os).forCall (fun _ _ => 0) ⟨#[], args, []⟩)).heap.toList.drop Tryz.prog.globals.size).take ((begin Tryz.prog (fun _ _ => 0) default).world.heap.size - Tryz.prog.globals.size) = (begin Tryz.prog (fun _ _ => 0) default).world.heap.toList.drop Tryz.prog.globals.size) :
    ((startW os).forCall (fun _ _ => 0) ⟨#[], args, []⟩).Shaped Tryz.prog := World.shaped_of_ZipB hv hr
theorem start_laid (os : Os) (args : Array Value) : laidMet Tryz.prog laidL ((startW os).forCall (fun _ _ => 0) ⟨#[], args, []⟩).memory := laidMet_laidAll _ (by kernel_rfl) (by kernel_rfl)
def args0 : Array Value := #[.agg #[.int .i64 0, .int .i64 0, .int .i64 0, .int .u64 0, .int .u64 0, .slice none 0 0], .agg #[.int .u64 0, .int .u64 0, .bool false, .int .i64 0, .int .i64 0, .bool false, .int .i64 0, .int .u64 0, .int .u32 0, .int .u64 0, .int .u32 0, .bool false, .int .i64 0, .int .i64 0, .int .i64 0, .int .i64 0, .int .i64 0, .int .u32 0, .int .u32 0, .string ⟨#[]⟩, .int .i64 0, .int .i64 0, .int .i64 0, .int .u32 0, .int .i64 0, .int .i64 0, .bool false, .int .u32 0, .int .u32 0, .int .i64 0, .int .i64 0, .int .i64 0, .string ⟨#[]⟩, .string ⟨#[]⟩, .string ⟨#[]⟩, .string ⟨#[]⟩, .int .i64 0, .int .i64 0, .int .i64 0, .int .i64 0, .int .u32 0, .int .u32 0, .int .u32 0, .int .u32 0, .int .i64 0, .int .u32 0, .int .u32 0, .int .i64 0, .int .i64 0]]

theorem law_lifted (os : Os) (started : os.Started) (H : Type) (enc : TypeId × Value → H) (F : Stop.Interp) :
    ReturnsInHanded {} Tryz.checked os 3 .any ((Rows.OpenSpec.upto Rows.exprPrintsSpec).preRow enc Tryz.prog Tryz.f3 Rows.exprPrintsUptoRow.domain false Rows.exprPrintsUptoRow.laid) (((Rows.OpenSpec.upto Rows.exprPrintsSpec).at F).post enc Tryz.prog Tryz.f3 false true false false) := by
  have hx : ∃ places, DataW.whole enc Tryz.prog ((startW os).forCall (fun _ _ => 0) ⟨#[], args0, []⟩).memory Tryz.f3.params.toList Rows.exprPrintsSpec.vars false args0.toList 12 = some ([(.agg [(.lit (.int .i64 0)), (.lit (.int .i64 0)), (.lit (.int .i64 0)), (.lit (.int .u64 0)), (.lit (.int .u64 0)), .nil]), (.agg [(.agg [(.agg [(.lit (.int .u64 0)), (.lit (.int .u64 0)), (.lit (.bool .false)), (.lit (.int .i64 0)), (.lit (.int .i64 0))]), (.lit (.bool .false)), (.agg [(.lit (.int .i64 0)), (.lit (.int .u64 0)), (.lit (.int .u32 0)), (.lit (.int .u64 0)), (.lit (.int .u32 0))]), (.lit (.bool .false)), (.agg [(.lit (.int .i64 0)), (.lit (.int .i64 0)), (.lit (.int .i64 0)), (.lit (.int .i64 0)), (.lit (.int .i64 0)), (.lit (.int .u32 0)), (.lit (.int .u32 0)), (.lit (.string []))]), (.agg [(.lit (.int .i64 0)), (.lit (.int .i64 0)), (.lit (.int .i64 0)), (.lit (.int .u32 0)), (.lit (.int .i64 0)), (.lit (.int .i64 0)), (.lit (.bool .false)), (.lit (.int .u32 0)), (.lit (.int .u32 0)), (.lit (.int .i64 0)), (.lit (.int .i64 0)), (.lit (.int .i64 0)), (.lit (.string [])), (.lit (.string []))]), (.lit (.string [])), (.lit (.string []))]), (.lit (.int .i64 0)), (.lit (.int .i64 0)), (.lit (.int .i64 0)), (.lit (.int .i64 0)), (.agg [(.lit (.int .u32 0)), (.lit (.int .u32 0)), (.lit (.int .u32 0)), (.lit (.int .u32 0))]), (.agg [(.lit (.int .i64 0)), (.lit (.int .u32 0)), (.lit (.int .u32 0)), (.lit (.int .i64 0)), (.lit (.int .i64 0))])])], [], places) := ⟨[], by kernel_rfl⟩
  obtain ⟨places, hx⟩ := hx
  have hok : Input.okWideB Tryz.prog ((startW os).forCall (fun _ _ => 0) ⟨#[], args0, []⟩) 3 ⟨#[], args0, []⟩ = true := by kernel_rfl
  refine returnsInHanded_of_row (C := Tryz.checked) (s := (Rows.OpenSpec.upto Rows.exprPrintsSpec)) own started (by kernel_rfl) Tryz.func3
    ⟨startW os, fun _ _ => 0, ⟨#[], args0, []⟩, World.laidAll_os _ _ _, start_shaped os _ (by kernel_rfl) (by kernel_rfl), (Input.okWide_of_okWideB (base := 0) hok).1, (Input.okWide_of_okWideB hok).2,
      OpenSpec.preRow_of_cond 12 hx (by kernel_rfl) (fun k hk => by cases hk; kernel_rfl) (by kernel_rfl) (start_laid os _), by simp only [Assume.holds]; exact ⟨by simp, by simp, fun _ => Modest.zero, by simp, by simp⟩⟩ ?_
  intro W base args ds gs before hval hW _ hcond hw hL hsh _
  exact law_contract (C := cx) cx_ok cx_glob libs_ok (T := [25, 3, 22, 23, 41, 36, 27, 4, 30, 28, 32, 9, 34, 37, 39]) tys_ok (by decide +kernel) laid_ok (by kernel_rfl) rfl (tb := 4) (by kernel_rfl) Tryz.underlying4
    (fun ds hd => match ds, hd with | [d1, d2], _ => rfl) (fun avs h hb => the_law avs h hb) hval hW hw (bulk_of (hcond _ rfl)) ⟨fun i => trivial, (inv_of hL hsh).1, (inv_of hL hsh).2⟩

theorem law_said : Rows.ExprPrintsUptoSaid :=
  OpenClaim.holds_of_cond 3 Tryz.f3 rfl rfl rfl rfl rfl rfl rfl ⟨rfl, rfl, rfl, rfl, rfl⟩ rfl rfl rfl rfl rfl (by kernel_rfl) Tryz.func3 (by kernel_rfl)
    (of_decide_eq_true (by kernel_rfl)) (by unfold Func.isWrapper; first | (rw [if_pos (by decide +kernel)]; kernel_rfl) | (rw [if_neg (by decide +kernel)]; exact ⟨rfl, rfl⟩))
    (fun os started H enc _ F => by rw [OpenClaim.pre_eq_preRow]; exact law_lifted os started H enc F)

theorem law_plain (f : FuncId) (fn : Func) (hf : Tryz.pinned.checked.prog.funcNamed "skein/skeinlaw15.ExprPrints" = some f) (hfn : Tryz.pinned.checked.prog.funcs[f]? = some fn) :
    true = Tryz.pinned.checked.prog.looks [] ∧ ∀ (j : Nat) t, fn.params[j]? = some t → Tryz.pinned.checked.prog.wantsStandIn t = false := by
  obtain rfl : f = 3 := Option.some.inj ((show Tryz.prog.funcNamed "skein/skeinlaw15.ExprPrints" = some 3 by kernel_rfl).symm.trans hf) |>.symm
  obtain rfl : fn = Tryz.f3 := (Option.some.inj (Tryz.func3.symm.trans hfn)).symm
  refine ⟨by kernel_rfl, fun j t ht => ?_⟩
  rw [Tryz.params3] at ht
  have hm : t ∈ [25, 3, 22, 23, 41, 36, 27, 4, 30, 28, 32, 9, 34, 37, 39] := by
    have := Array.mem_of_getElem? ht
    simp at this
    rcases this with e | e <;> (rw [e]; decide +kernel)
  have hall : ([25, 3, 22, 23, 41, 36, 27, 4, 30, 28, 32, 9, 34, 37, 39].all fun u => !Tryz.prog.wantsStandIn u) = true := by kernel_rfl
  exact (show Tryz.prog.wantsStandIn t = false by simpa using List.all_eq_true.1 hall t hm)

theorem prints_holds : Rows.ExprPrintsUptoCardSaid :=
  Claim7.holds_tied_plain_at .later [] _ _ _ _ law_said (fun _ h => by cases h) (by kernel_rfl) (fun _ h => by cases h) exprPrintsUpto_row_tie rfl ⟨rfl, rfl⟩ (by kernel_rfl) rfl law_plain (by kernel_rfl)
#print axioms prints_holds
end Go.Proofs.YtklcmgodhpediaaGreatDoor
