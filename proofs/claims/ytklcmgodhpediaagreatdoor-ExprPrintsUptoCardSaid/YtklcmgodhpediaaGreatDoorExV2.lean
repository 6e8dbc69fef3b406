/- The known functions answer so. -/
import Derived.Test.YtklcmgodhpediaaGreatDoorExE1
import Derived.Test.YtklcmgodhpediaaGreatDoorShelf
import Derived.Sort.Grow
set_option linter.unusedSimpArgs false
set_option linter.unusedVariables false
set_option maxRecDepth 100000
namespace Go.Proofs.YtklcmgodhpediaaGreatDoor
open Go Go.Vm Go.Proofs Go.RowKit Go.Sort

theorem below_grow (w : World) (k : Nat) (os : Array Obj) : Below w.heap.size w (grow (w.drewN k) os) := by
  have e : (w.drewN k).heap = w.heap ∧ (w.drewN k).os = w.os ∧ (w.drewN k).tape = w.tape ∧ (w.drewN k).output = w.output := by
    induction k with
    | zero => exact ⟨rfl, rfl, rfl, rfl⟩
    | succ k ih => exact ih
  refine ⟨e.2.1, e.2.2.1, e.2.2.2, ?_, fun j hj => ?_⟩
  · simp [grow, e.1]
  · simp only [grow, e.1]
    rw [Array.getElem?_append_left hj]

/-! Splitting. -/
theorem splitK_ne {b c : UInt8} (h : b ≠ c) (r : List UInt8) (k : Nat) : Lib.splitK [c] 0 k (b :: r) = match Lib.splitK [c] 0 k r with
    | [] => [[b]]
    | x :: l => (b :: x) :: l := by
  have hp : ([c] : List UInt8).isPrefixOf (b :: r) = false := by simp [List.isPrefixOf, Ne.symm h]
  have hix : Lib.index (b :: r) [c] = if Lib.index r [c] == -1 then -1 else Lib.index r [c] + 1 := by rw [Lib.index, hp]; simp
  cases k with
  | zero => rfl
  | succ k =>
    unfold Lib.splitK
    rw [hix]
    by_cases hm : Lib.index r [c] = -1
    · simp [hm]
    · have hge := Lib.index_ge r [c]
      obtain ⟨j, hj⟩ : ∃ j : Nat, Lib.index r [c] = j := ⟨(Lib.index r [c]).toNat, by omega⟩
      have h1 : ((j : Int) == -1) = false := by simp
      have h2 : ((j : Int) + 1 == -1) = false := by simp; omega
      have h3 : ((j : Int) + 1).toNat = j + 1 := by omega
      simp only [hj, h1, Bool.false_eq_true, if_false, h2, h3, Int.toNat_natCast, Nat.add_zero, List.take_succ_cons, List.length_singleton, List.drop_succ_cons]
theorem splitK_eq (c : UInt8) (r : List UInt8) (k : Nat) : Lib.splitK [c] 0 (k + 1) (c :: r) = [] :: Lib.splitK [c] 0 k r := by
  have hix : Lib.index (c :: r) [c] = 0 := by rw [Lib.index]; simp [List.isPrefixOf]
  rw [Lib.splitK, hix]
  simp
theorem splitC_eq (c : UInt8) : ∀ s : List UInt8, Lib.splitK [c] 0 (s.count c) s = splitC c s
  | [] => rfl
  | b :: r => by
    by_cases h : b = c
    · subst h
      rw [List.count_cons_self, splitK_eq, splitC_eq b r, splitC, if_pos rfl]
    · rw [List.count_cons_of_ne (by simpa using h), splitK_ne h, splitC_eq c r, splitC, if_neg h]
      cases splitC c r <;> rfl
theorem split_rows (c : UInt8) (s : List UInt8) : (Lib.splitB ⟨#[c]⟩ 0 (Lib.countB ⟨s.toArray⟩ ⟨#[c]⟩) ⟨s.toArray⟩).map Value.string = (splitC c s).map (fun x => Value.string ⟨x.toArray⟩) ∧
    Lib.countB ⟨s.toArray⟩ ⟨#[c]⟩ + 1 = (splitC c s).length := by
  have hc : Lib.countB ⟨s.toArray⟩ ⟨#[c]⟩ = s.count c := by
    show Lib.count s [c] = _
    exact Lib.count_one c s
  have hd := Lib.splitB_data ⟨#[c]⟩ 0 (s.count c) ⟨s.toArray⟩
  have hd : (Lib.splitB ⟨#[c]⟩ 0 (s.count c) ⟨s.toArray⟩).map (·.data.toList) = splitC c s := by rw [hd]; exact splitC_eq c s
  rw [hc]
  constructor
  · rw [← hd, List.map_map]
    refine List.map_congr_left fun x _ => ?_
    simp
  · rw [← hd, List.length_map, Lib.splitB_all ⟨#[c]⟩ (Nat.le_refl 1) 0 (s.count c) ⟨s.toArray⟩ hc]

theorem errE {w : World} {i : Nat} (h : errAt w i) : ∃ (o : Option TypeId) (u : Value), w.cell? ⟨i, 0, none⟩ = some u ∧ u.oneCell' = true ∧ ∀ g, VR g (errC o) u := by
  rcases h with h | ⟨t, v, h⟩
  · exact ⟨none, _, h, rfl, fun _ => rfl⟩
  · exact ⟨some t, _, h, rfl, fun _ => ⟨v, rfl, trivial⟩⟩
theorem libsE_ok (a b : Option TypeId) : XOk (cxE a b) := by
  intro k args st v st' h
  have h0 : libsE k args st = some (v, st') := h
  clear h
  unfold libsE at h0
  split at h0
  · rename_i s
    split at h0
    · rename_i hc
      cases h0
      refine AC_of (cxE_ok a b) ⟨_, Tryz.func177, by kernel_rfl⟩ fun g w args' _ _ hI ha => ?_
      obtain ⟨x, rfl, hv⟩ := VRl_one ha
      simp only [VR] at hv
      subst hv
      exact (Tryz.stringslite_Clone ⟨s.toArray⟩ w (show s.toArray.size ≤ _ by simpa using hc)).mono fun e w' ⟨he, hw⟩ => ⟨_, he, by simp [VR], hw⟩
    · cases h0
  · cases h0
theorem toErr_calls {f x : List UInt8} {base bits c : Int} (hx : x.length ≤ 1000000) (hc : c = 1 ∨ c = 2) {w : World} (h3 : errAt w 3) (h4 : errAt w 4) :
    Calls Tryz.prog 100 #[.string ⟨f.toArray⟩, .string ⟨x.toArray⟩, .int .i64 base, .int .i64 bits, .iface 158 (.int .i64 c)] w fun e w' => ∃ p, e = .returned (.iface 160 p) ∧ Below w.heap.size w w' := by
  obtain ⟨a, u3, e3, o3, v3⟩ := errE h3
  obtain ⟨b, u4, e4, o4, v4⟩ := errE h4
  have hg : GlobR (cxE a b) (Ghost.of w) ⟨w, (Ghost.of w).st⟩ w.heap.size := by
    refine ⟨fun i => ?_, trivial, Nat.zero_le _⟩
    show VR _ (if i = 3 then .cptr [errC a] else if i = 4 then .cptr [errC b] else .any) _
    split
    · rename_i hi
      subst hi
      refine ⟨3, 0, [u3], rfl, ?_, ⟨u3, [], rfl, o3, v3 _, rfl⟩⟩
      intro j y hy
      cases j with
      | zero => simp at hy; subst hy; exact e3
      | succ j => simp at hy
    · split
      · rename_i hi
        subst hi
        refine ⟨4, 0, [u4], rfl, ?_, ⟨u4, [], rfl, o4, v4 _, rfl⟩⟩
        intro j y hy
        cases j with
        | zero => simp at hy; subst hy; exact e4
        | succ j => simp at hy
      · trivial
  have ha : VRl (Ghost.of w) [.str f, .str x, .int .i64 base, .int .i64 bits, .iface 158 (.int .i64 c)] (#[.string ⟨f.toArray⟩, .string ⟨x.toArray⟩, .int .i64 base, .int .i64 bits, .iface 158 (.int .i64 c)] : Array Value).toList :=
    ⟨_, _, rfl, rfl, _, _, rfl, rfl, _, _, rfl, rfl, _, _, rfl, rfl, _, _, rfl, ⟨_, rfl, rfl⟩, rfl⟩
  refine ((toErrS (a := a) (b := b) f x hx base bits c hc ⟨[], 0⟩).ex.sound (cxE_ok a b) (globE a b) (libsE_ok a b) (GR_start w) hg ha).mono fun e w' ⟨v, st', v', g', hq, he, hv, hG⟩ => ?_
  obtain ⟨rfl, rfl⟩ := hq
  obtain ⟨p, rfl, _⟩ := hv
  exact ⟨p, he, hG.below⟩

/-! Zeros of 16. -/
noncomputable def cxB : Cfg :=
  { P := Tryz.prog, glob := fun i => if i = 7 then .cptr (deB.map fun z => .int .u8 z) else .any, X := fun _ _ _ => none, keep := fun _ => false, frz := fun _ => false, grow := fun _ => false, pure := fun _ => true, eqs := [] }
theorem cxB_ok : COk cxB := ⟨fun t ht => (by cases ht), cx_ok.funcs, cx_ok.mixed, fun _ _ _ h => h⟩
theorem cxB_glob : GlobPure cxB := by
  intro i
  show pureV (if i = 7 then .cptr (deB.map fun z => .int .u8 z) else .any) = true
  split
  · kernel_rfl
  · rfl
theorem zeros_run : callF cxB 30 187 [.int .u64 16] ⟨[], 0⟩ = some (.int .i64 4, ⟨[], 0⟩) := by kernel_rfl
theorem VRs_tab (g : Ghost) (k : IntKind) : ∀ zs : List Int, VRs g (zs.map fun z => .int k z) (zs.map fun z => Value.int k z)
  | [] => rfl
  | z :: zs => ⟨_, _, rfl, rfl, rfl, VRs_tab g k zs⟩
theorem zeros_calls {w : World} (h : Lib.TabIs Tryz.prog w "math/bits.deBruijn64tab" .u8 deB) :
    Calls Tryz.prog 187 #[.int .u64 16] w fun e w' => e = .returned (.int .i64 4) ∧ Below w.heap.size w w' := by
  have hg : GlobR cxB (Ghost.of w) ⟨w, (Ghost.of w).st⟩ w.heap.size := by
    refine ⟨fun i => ?_, trivial, Nat.zero_le _⟩
    show VR _ (if i = 7 then .cptr (deB.map fun z => .int .u8 z) else .any) _
    split
    · rename_i hi
      subst hi
      refine ⟨7, 0, deB.map fun z => Value.int .u8 z, rfl, ?_, VRs_tab _ _ _⟩
      intro j y hy
      rw [List.getElem?_map, Option.map_eq_some_iff] at hy
      obtain ⟨z, hz, rfl⟩ := hy
      obtain ⟨hj, hz⟩ := List.getElem?_eq_some_iff.1 hz
      have := h.cell (g := 7) (by kernel_rfl) j hj
      rw [show deB.getD j 0 = z by rw [List.getD_eq_getElem?_getD, List.getElem?_eq_getElem hj, hz]; rfl] at this
      show w.cell? ⟨7, 0 + j, none⟩ = _
      rw [Nat.zero_add]
      exact this
    · trivial
  have hc : Vm.Fn cxB 187 [.int .u64 16] ⟨[], 0⟩ fun v st => v = .int .i64 4 ∧ st = ⟨[], 0⟩ := Fn.ofF zeros_run ⟨rfl, rfl⟩
  refine (hc.sound cxB_ok cxB_glob (XOk.none fun _ _ _ => rfl) (GR_start w) hg (show VRl (Ghost.of w) [.int .u64 16] (#[.int .u64 16] : Array Value).toList from ⟨_, _, rfl, rfl, rfl⟩)).mono fun e w' ⟨v, st', v', g', hq, he, hv, hG⟩ => ?_
  obtain ⟨rfl, rfl⟩ := hq
  simp only [VR] at hv
  subst hv
  exact ⟨he, hG.below⟩

theorem libs_ok : XOk cx := by
  intro k args st v st' h
  have h0 : (known k args).map (fun v => (v, st)) = some (v, st') := h
  clear h
  rw [Option.map_eq_some_iff] at h0
  obtain ⟨u, h, e⟩ := h0
  simp only [Prod.mk.injEq] at e
  obtain ⟨rfl, rfl⟩ := e
  unfold known at h
  split at h
  · split at h
    rotate_left
    · cases h
    rename_i tip xs sep
    rw [Option.bind_eq_some_iff] at h
    obtain ⟨l, hl, h⟩ := h
    split at h
    · rename_i hb
      cases h
      rw [texts_str hl] at hb ⊢
      rw [List.length_map] at hb
      exact join_ok cx_ok (k := 37) ⟨_, Tryz.func37, by kernel_rfl⟩ Tryz.strings_Join_none (fun bk o c xs sep w a1 a2 a3 a4 a5 => Tryz.strings_Join bk o c xs sep w a1 a2 a3 a4 a5) hb.1 hb.2
    · cases h
  · split at h
    rotate_left
    · cases h
    cases h
    refine AC_of cx_ok ⟨_, Tryz.func44, by kernel_rfl⟩ fun g w args' _ _ _ ha => ?_
    obtain ⟨a, b, rfl, ha, hb⟩ := VRl_two ha
    simp only [VR] at ha hb
    subst ha; subst hb
    exact (Tryz.strings_IndexByte _ _ w).mono fun e w' ⟨he, hw⟩ => ⟨_, he, by simp [VR], hw ▸ Below.refl _ _⟩
  · split at h
    rotate_left
    · cases h
    cases h
    refine AC_of cx_ok ⟨_, Tryz.func78, by kernel_rfl⟩ fun g w args' _ _ _ ha => ?_
    obtain ⟨a, b, rfl, ha, hb⟩ := VRl_two ha
    simp only [VR] at ha hb
    subst ha; subst hb
    exact (Tryz.strings_HasPrefix _ _ w).mono fun e w' ⟨he, hw⟩ => ⟨_, he, by simp [VR], hw ▸ Below.refl _ _⟩
  · split at h
    rotate_left
    · cases h
    rename_i s
    split at h
    · rename_i hc
      cases h
      refine AC_rows (T := 9) cx_ok ⟨_, Tryz.func82, by kernel_rfl⟩ fun g w args' _ _ hI ha => ?_
      obtain ⟨a, rfl, hv⟩ := VRl_one ha
      simp only [VR] at hv
      subst hv
      have hI : Lib.TabIs Tryz.prog w "strings.asciiSpace" .u8 Lib.asciiSpaceTab := hI.1
      have := Tryz.strings_Fields_laid ⟨s.toArray⟩ w (show s.toArray.size < 4294967281 by simpa using hc.1) (fun j b hb => by
        have := List.all_eq_true.1 hc.2 b (List.mem_of_getElem? (by simpa using hb))
        simpa using this) hI
      exact this.mono fun e w' ⟨he, hw⟩ => ⟨he, hw⟩
    · cases h
  · split at h
    rotate_left
    · cases h
    rename_i n
    split at h
    · rename_i hc
      cases h
      refine AC_of cx_ok ⟨_, Tryz.func149, by kernel_rfl⟩ fun g w args' _ _ hI ha => ?_
      obtain ⟨a, rfl, hv⟩ := VRl_one ha
      simp only [VR] at hv
      subst hv
      exact (Tryz.strconv_Itoa n hc.1 hc.2 w hI.2.1).mono fun e w' ⟨he, k, os, hw⟩ => ⟨_, he, by simp [VR], hw ▸ below_grow _ _ _⟩
    · cases h
  · split at h
    rotate_left
    · cases h
    rename_i s c
    split at h
    · rename_i hc
      cases h
      refine AC_rows (T := 9) cx_ok ⟨_, Tryz.func95, by kernel_rfl⟩ fun g w args' _ _ hI ha => ?_
      obtain ⟨a, b, rfl, ha, hb⟩ := VRl_two ha
      simp only [VR] at ha hb
      subst ha; subst hb
      obtain ⟨m, hm⟩ := hI.2.2.2.2.2
      obtain ⟨h1, h2⟩ := split_rows c s
      exact (Tryz.strings_Split ⟨s.toArray⟩ ⟨#[c]⟩ m w (show s.toArray.size < 4294967281 by simpa using hc) hm (Nat.le_refl 1)).mono fun e w' ⟨he, hw⟩ => ⟨by rw [he, h2], by rw [hw, h1]⟩
    · cases h
  · split at h
    rotate_left
    · cases h
    rename_i n
    split at h
    · rename_i hc
      cases h
      subst hc
      refine AC_of cx_ok ⟨_, Tryz.func187, by kernel_rfl⟩ fun g w args' _ _ hI ha => ?_
      obtain ⟨x, rfl, hv⟩ := VRl_one ha
      simp only [VR] at hv
      subst hv
      exact (zeros_calls hI.2.2.1).mono fun e w' ⟨he, hw⟩ => ⟨_, he, rfl, hw⟩
    · cases h
  · split at h
    rotate_left
    · cases h
    rename_i s
    split at h
    · rename_i hc
      cases h
      refine AC_of cx_ok ⟨_, Tryz.func177, by kernel_rfl⟩ fun g w args' _ _ hI ha => ?_
      obtain ⟨x, rfl, hv⟩ := VRl_one ha
      simp only [VR] at hv
      subst hv
      exact (Tryz.stringslite_Clone ⟨s.toArray⟩ w (show s.toArray.size ≤ _ by simpa using hc)).mono fun e w' ⟨he, hw⟩ => ⟨_, he, by simp [VR], hw⟩
    · cases h
  · split at h
    rotate_left
    · cases h
    rename_i f x a b c
    split at h
    · rename_i hc
      cases h
      refine AC_of cx_ok ⟨_, Tryz.func100, by kernel_rfl⟩ fun g w args' _ _ hI ha => ?_
      obtain ⟨v0, r0, e0, hv0, v1, r1, e1, hv1, v2, r2, e2, hv2, v3, r3, e3, hv3, v4, r4, e4, ⟨x4, rfl, hv4⟩, e5⟩ := ha
      subst e5; subst e4; subst e3; subst e2; subst e1
      simp only [VR] at hv0 hv1 hv2 hv3 hv4
      subst hv0; subst hv1; subst hv2; subst hv3; subst hv4
      have ea : args' = #[.string ⟨f.toArray⟩, .string ⟨x.toArray⟩, .int .i64 a, .int .i64 b, .iface 158 (.int .i64 c)] := by cases args'; simp_all
      subst ea
      exact (toErr_calls hc.1 hc.2 hI.2.2.2.1 hI.2.2.2.2.1).mono fun e w' ⟨p, he, hb⟩ => ⟨_, he, ⟨p, rfl, trivial⟩, hb⟩
    · cases h
  · cases h
end Go.Proofs.YtklcmgodhpediaaGreatDoor
