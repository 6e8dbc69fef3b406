/- What is printed is read again as what it was. -/
import Derived.Test.YtklcmgodhpediaaGreatDoorExR3a
import Derived.Test.YtklcmgodhpediaaGreatDoorExR3c
import Derived.Test.YtklcmgodhpediaaGreatDoorExR4
import Derived.Test.YtklcmgodhpediaaGreatDoorExQ1
set_option linter.unusedSimpArgs false
set_option linter.unusedVariables false
set_option maxRecDepth 100000
namespace Go.Proofs.YtklcmgodhpediaaGreatDoor.K
open Go Go.Vm Go.Proofs Go.Proofs.YtklcmgodhpediaaGreatDoor Go.Proofs.YtklcmgodhpediaaGreatDoor.P

theorem findS (f : Int) (h1 : 1 ≤ f) (h2 : f ≤ 28) (st : St) : FnS YtklcmgodhpediaaGreatDoor.cx 106 [.str (nmT f)] st (.tup [.int .i64 f, .bool true]) st := by
  rcases (show f ≤ 7 ∨ (8 ≤ f ∧ f ≤ 14) ∨ (15 ≤ f ∧ f ≤ 21) ∨ 22 ≤ f by omega) with h | h | h | h
  · exact findS0 f h1 h st
  · exact findS1 f h.1 h.2 st
  · exact findS2 f h.1 h.2 st
  · exact findS3 f h h2 st
theorem findV_op {o : Int} (h1 : 1 ≤ o) (h6 : o ≤ 6) : findV (.str (opT o)) opsM = some (some (.int .i64 o)) := by
  have : o = 1 ∨ o = 2 ∨ o = 3 ∨ o = 4 ∨ o = 5 ∨ o = 6 := by omega
  rcases this with rfl | rfl | rfl | rfl | rfl | rfl <;> rfl
structure LexOK (w : List UInt8) (ks : List Key) : Prop where
  head : ∃ c r, w = c :: r ∧ c ≠ 58 ∧ c ≠ 61
  lex : ∀ u ts, Lx u ts → L.Sep u → Lx (w ++ u) (ks ++ ts)
theorem sep_head {u : List UInt8} (h : L.Sep u) : u.head? ≠ some 58 := by
  rcases h with rfl | ⟨d, v, rfl, hd, _⟩
  · simp
  · rcases hd with rfl | rfl | rfl | rfl | rfl <;> simp
theorem LexOK.sp {w : List UInt8} {ks : List Key} (h : LexOK w ks) (u : List UInt8) : L.Sep (32 :: (w ++ u)) := by
  obtain ⟨c, r, rfl, h1, _⟩ := h.head
  exact .inr ⟨32, _, rfl, .inl rfl, by simpa using h1⟩
theorem LexOK.br {w : List UInt8} {ks : List Key} (h : LexOK w ks) : LexOK (40 :: (w ++ [41])) ((5, [40], 0) :: (ks ++ [(5, [41], 0)])) := by
  refine ⟨⟨40, _, rfl, by decide, by decide⟩, fun u ts hu hs => ?_⟩
  have h1 : Lx (41 :: u) ((5, [41], 0) :: ts) := Lx.op (c := 41) (by decide) rfl hu
  have h2 := h.lex _ _ h1 (.inr ⟨41, u, rfl, by decide, sep_head hs⟩)
  have e : 40 :: (w ++ [41]) ++ u = 40 :: (w ++ (41 :: u)) := by simp
  have e2 : ((5, [40], 0) :: (ks ++ [(5, [41], 0)]) ++ ts : List Key) = (5, [40], 0) :: (ks ++ (5, [41], 0) :: ts) := by simp
  rw [e, e2]
  exact Lx.op (c := 40) (by decide) rfl h2
theorem LexOK.not {w : List UInt8} {ks : List Key} (h : LexOK w ks) : LexOK (33 :: w) ((5, [33], 0) :: ks) := by
  refine ⟨⟨33, _, rfl, by decide, by decide⟩, fun u ts hu hs => ?_⟩
  have h2 := h.lex u ts hu hs
  obtain ⟨c, r, rfl, _, h3⟩ := h.head
  refine Lx.op (c := 33) (by decide) ?_ h2
  have hc : (61 == c) = false := by simp; exact fun e => h3 e.symm
  simp [L.opT, L.opsL, List.find?, List.isPrefixOf, hc]
theorem LexOK.one (x : Fin 2) : LexOK [48 + UInt8.ofNat x.val] [(2, [48 + UInt8.ofNat x.val], (x.val : Int))] := by
  refine ⟨⟨_, [], rfl, ?_, ?_⟩, fun u ts hu hs => ?_⟩
  · revert x; decide
  · revert x; decide
  · refine Lx.tok (w := [48 + UInt8.ofNat x.val]) (k := 2) (n := 0) (x := x.val) (by simp) (L.dec_again ?_ (by simp) ?_ hs) hu
    · revert x; decide
    · revert x; decide +kernel
def joinK (op : List UInt8) : List (List Key) → List Key
  | [] => []
  | k :: r => k ++ (r.flatMap fun k => (5, op, 0) :: k)
inductive All2 {α β : Type} (R : α → β → Prop) : List α → List β → Prop
  | nil : All2 R [] []
  | cons {a : α} {b : β} {l : List α} {m : List β} : R a b → All2 R l m → All2 R (a :: l) (b :: m)
theorem lex_tail {op : List UInt8} (ho : op ∈ L.opsL) (h0 : ∃ c r, op = c :: r ∧ c ≠ 58) {ws : List (List UInt8)} {kss : List (List Key)} (h : All2 LexOK ws kss) : ∀ u ts, Lx u ts → L.Sep u → Lx (Lib.joinTail (32 :: (op ++ [32])) ws ++ u) ((kss.flatMap fun k => (5, op, 0) :: k) ++ ts) ∧ L.Sep (Lib.joinTail (32 :: (op ++ [32])) ws ++ u) := by
  induction h with
  | nil => exact fun u ts hu hs => ⟨hu, hs⟩
  | @cons w ks ws kss hw _ ih =>
    intro u ts hu hs
    obtain ⟨h1, h2⟩ := ih u ts hu hs
    have h3 := hw.lex _ _ h1 h2
    obtain ⟨c, r, hop, hc⟩ := h0
    have e : Lib.joinTail (32 :: (op ++ [32])) (w :: ws) ++ u = 32 :: (op ++ (32 :: (w ++ (Lib.joinTail (32 :: (op ++ [32])) ws ++ u)))) := by simp [Lib.joinTail]
    have e2 : (((ks :: kss).flatMap fun k => ((5, op, 0) : Key) :: k) ++ ts) = (5, op, 0) :: (ks ++ ((kss.flatMap fun k => (5, op, 0) :: k) ++ ts)) := by simp
    rw [e, e2]
    refine ⟨Lx.sp (Lx.ops ho (by rw [hop]; simp) (hw.sp _) (Lx.sp h3)), .inr ⟨32, _, rfl, .inl rfl, by rw [hop]; simpa using hc⟩⟩
theorem LexOK.join {op : List UInt8} (ho : op ∈ L.opsL) (h0 : ∃ c r, op = c :: r ∧ c ≠ 58) {ws : List (List UInt8)} {kss : List (List Key)} (h : All2 LexOK ws kss) (hn : ws ≠ []) : LexOK (Lib.join ws (32 :: (op ++ [32]))) (joinK op kss) := by
  cases h with
  | nil => exact absurd rfl hn
  | @cons w ks ws kss hw hr =>
    refine ⟨?_, fun u ts hu hs => ?_⟩
    · obtain ⟨c, r, rfl, h1, h2⟩ := hw.head
      rw [Lib.join_cons]
      exact ⟨c, _, rfl, h1, h2⟩
    · obtain ⟨h1, h2⟩ := lex_tail ho h0 hr u ts hu hs
      rw [Lib.join_cons, List.append_assoc, joinK, List.append_assoc]
      exact hw.lex _ _ h1 h2
/-! Comparisons. -/
def isK (f o v m : Int) : List Key := (1, nmT f, 0) :: (5, opT o, 0) :: (2, hexT v.toNat, v) :: (if m = allN f then [] else [(5, [47], 0), (2, hexT m.toNat, m)])
theorem nm_ok : ∀ n : Fin 28, ∃ c w, nmL.getD (n.val + 1) [] = c :: w ∧ L.letP c.toNat ∧ (∀ d ∈ w, L.nameP d.toNat) ∧ c ≠ 58 ∧ c ≠ 61 := by
  have h : ∀ n : Fin 28, (match nmL.getD (n.val + 1) [] with
    | [] => false
    | c :: w => decide (L.letP c.toNat) && (w.all fun d => decide (L.nameP d.toNat)) && decide (c ≠ 58) && decide (c ≠ 61)) = true := by decide +kernel
  intro n
  have := h n
  generalize nmL.getD (n.val + 1) [] = l at this
  cases l with
  | nil => cases this
  | cons c w =>
    simp only [Bool.and_eq_true, decide_eq_true_eq, List.all_eq_true] at this
    exact ⟨c, w, rfl, this.1.1.1, this.1.1.2, this.1.2, this.2⟩
theorem nm_at {f : Int} (h1 : 1 ≤ f) (h2 : f ≤ 28) : ∃ c w, nmT f = c :: w ∧ L.letP c.toNat ∧ (∀ d ∈ w, L.nameP d.toNat) ∧ c ≠ 58 ∧ c ≠ 61 := by
  have h := nm_ok ⟨(f - 1).toNat, by omega⟩
  have e : (f - 1).toNat + 1 = f.toNat := by omega
  simp only [e] at h
  exact h
theorem opT_mem {o : Int} (h1 : 1 ≤ o) (h6 : o ≤ 6) : opT o ∈ L.opsL ∧ ∃ c r, opT o = c :: r ∧ c ≠ 58 := by
  have : o = 1 ∨ o = 2 ∨ o = 3 ∨ o = 4 ∨ o = 5 ∨ o = 6 := by omega
  rcases this with rfl | rfl | rfl | rfl | rfl | rfl <;> exact ⟨by decide, _, _, rfl, by decide⟩
theorem lex_is {f o v m : Int} (hf : 1 ≤ f ∧ f ≤ 28) (ho : 1 ≤ o ∧ o ≤ 6) (hv : 0 ≤ v ∧ v < 18446744073709551616) (hm : 0 ≤ m ∧ m < 18446744073709551616) : LexOK (isT f o v m) (isK f o v m) := by
  obtain ⟨c, w, hn, hc, hw, h58, h61⟩ := nm_at hf.1 hf.2
  obtain ⟨hop, c2, r2, ho2, ho58⟩ := opT_mem ho.1 ho.2
  have hv2 : ((v.toNat : Nat) : Int) = v := by omega
  have hm2 : ((m.toNat : Nat) : Int) = m := by omega
  have key : ∀ (z : List UInt8) (zs : List Key), Lx z zs → L.Sep z → Lx (nmT f ++ [32] ++ opT o ++ [32] ++ hexT v.toNat ++ z) ((1, nmT f, 0) :: (5, opT o, 0) :: (2, hexT v.toNat, v) :: zs) := by
    intro z zs hz hs
    have h1 := Lx.hex (v := v.toNat) (by omega) hs hz
    rw [hv2] at h1
    have h2 : Lx (opT o ++ (32 :: (hexT v.toNat ++ z))) ((5, opT o, 0) :: (2, hexT v.toNat, v) :: zs) := Lx.ops hop (by rw [ho2]; simp) (.inr ⟨32, _, rfl, .inl rfl, by simp [hexT]⟩) (Lx.sp h1)
    have h3 : Lx (nmT f ++ (32 :: (opT o ++ (32 :: (hexT v.toNat ++ z))))) ((1, nmT f, 0) :: (5, opT o, 0) :: (2, hexT v.toNat, v) :: zs) := by
      rw [hn]
      exact Lx.name hc hw (.inr ⟨32, _, rfl, .inl rfl, by rw [ho2]; simpa using ho58⟩) (Lx.sp h2)
    have e : nmT f ++ [32] ++ opT o ++ [32] ++ hexT v.toNat ++ z = nmT f ++ (32 :: (opT o ++ (32 :: (hexT v.toNat ++ z)))) := by simp
    rw [e]; exact h3
  refine ⟨?_, fun u ts hu hs => ?_⟩
  · unfold isT YtklcmgodhpediaaGreatDoor.cmpL
    rw [hn]
    split <;> exact ⟨c, _, rfl, h58, h61⟩
  · unfold isT YtklcmgodhpediaaGreatDoor.cmpL isK
    split
    · exact key u ts hu hs
    · have h1 := Lx.hex (v := m.toNat) (by omega) hs hu
      rw [hm2] at h1
      have h2 : Lx (32 :: 47 :: 32 :: (hexT m.toNat ++ u)) ((5, [47], 0) :: (2, hexT m.toNat, m) :: ts) := Lx.sp (Lx.op (c := 47) (by decide) rfl (Lx.sp h1))
      have h3 := key _ _ h2 (.inr ⟨32, _, rfl, .inl rfl, by simp⟩)
      have e : nmT f ++ [32] ++ opT o ++ [32] ++ hexT v.toNat ++ ([32, 47, 32] ++ hexT m.toNat) ++ u = nmT f ++ [32] ++ opT o ++ [32] ++ hexT v.toNat ++ (32 :: 47 :: 32 :: (hexT m.toNat ++ u)) := by simp
      rw [e]; exact h3
def StopP (ts : List Key) : Prop := ∃ k t x r, ts = (k, t, x) :: r ∧ ¬ (k = 5 ∧ t = [47])
def StopE (ts : List Key) : Prop := ∃ k t x r, ts = (k, t, x) :: r ∧ ¬ (k = 5 ∧ t = [47]) ∧ ¬ (k = 5 ∧ t = [38, 38]) ∧ ¬ (k = 5 ∧ t = [124, 124])
theorem StopE.part {ts : List Key} (h : StopE ts) : StopP ts := by
  obtain ⟨k, t, x, r, e, h1, _⟩ := h
  exact ⟨k, t, x, r, e, h1⟩
theorem and_mask {v m : Int} (hv : 0 ≤ v ∧ v < 18446744073709551616) (hm : 0 ≤ m ∧ m < 18446744073709551616) (h : andn v m = 0) : ((BitVec.ofInt 64 v &&& BitVec.ofInt 64 m).toNat : Int) = v := by
  have h0 : (BitVec.ofInt 64 v &&& ~~~ BitVec.ofInt 64 m).toNat = 0 := by
    unfold andn at h
    have h : IntKind.u64.wrap ((BitVec.ofInt 64 v &&& ~~~ BitVec.ofInt 64 m).toNat : Int) = 0 := h
    rw [wU64] at h
    have := (BitVec.ofInt 64 v &&& ~~~ BitVec.ofInt 64 m).isLt
    omega
  have h1 : BitVec.ofInt 64 v &&& ~~~ BitVec.ofInt 64 m = 0#64 := BitVec.eq_of_toNat_eq (by rw [h0]; rfl)
  have h2 : BitVec.ofInt 64 v &&& BitVec.ofInt 64 m = BitVec.ofInt 64 v := by
    apply BitVec.eq_of_getLsbD_eq
    intro i hi
    have h3 : (BitVec.ofInt 64 v &&& ~~~ BitVec.ofInt 64 m).getLsbD i = false := by rw [h1]; simp
    rw [BitVec.getLsbD_and, BitVec.getLsbD_not] at h3
    rw [BitVec.getLsbD_and]
    cases ha : (BitVec.ofInt 64 v).getLsbD i <;> cases hb : (BitVec.ofInt 64 m).getLsbD i <;> simp_all
  rw [h2, BitVec.toNat_ofInt]
  have : ((2 ^ 64 : Nat) : Int) = 18446744073709551616 := by decide
  rw [this]; omega
theorem parse_is {d f o v m : Int} {z : Bool} (hn : nodeP 3 f o v m 0) (hv : 0 ≤ v ∧ v < 18446744073709551616) (hm : 0 ≤ m ∧ m < 18446744073709551616) {ts : List Key} {l : List L.Tok} (hs : StopP ts) (h : l.map key = isK f o v m ++ ts) :
    ∃ l', l'.map key = ts ∧ PS 84 d l l' (isE f o v m) := by
  obtain ⟨_, h1, h2, h3, h4, hm0, hma, hand, hor⟩ := node3.1 hn
  have hvm := and_mask hv hm hand
  have hva : v ≤ allN f := by
    have e1 : (BitVec.ofInt 64 v &&& BitVec.ofInt 64 m).toNat ≤ (BitVec.ofInt 64 m).toNat := by
      rw [BitVec.toNat_and]; exact Nat.and_le_right
    have e2 : ((BitVec.ofInt 64 m).toNat : Int) = m := by
      rw [BitVec.toNat_ofInt]
      have : ((2 ^ 64 : Nat) : Int) = 18446744073709551616 := by decide
      rw [this]; omega
    omega
  unfold isK at h
  simp only [List.cons_append] at h
  obtain ⟨a1, l1, rfl, g1⟩ := key_cons h
  obtain ⟨a2, l2, rfl, g2⟩ := key_cons g1
  obtain ⟨a3, l3, rfl, g3⟩ := key_cons g2
  clear h g1 g2
  have fin : ∀ l', l'.map key = ts → (∀ (H : List (Nat × Ob)) (n b : Nat), hget H b = some (.cells (rdC (⟨5, opT o, 0, a2⟩ :: ⟨2, hexT v.toNat, v, a3⟩ :: l3) d)) → Low n H → FnS cx 107 [.ptr b 0, .int .i64 f] ⟨H, n⟩ (isE f o v m).c ⟨hset H b (.cells (rdC l' d)), n⟩) →
      ∃ l', l'.map key = ts ∧ PS 84 d (⟨1, nmT f, 0, a1⟩ :: ⟨5, opT o, 0, a2⟩ :: ⟨2, hexT v.toNat, v, a3⟩ :: l3) l' (isE f o v m) := fun l' hk hp =>
    ⟨l', hk, partCmp (f := f) rfl (fun st => rt (wordS f h1 h2 st)) (fun st => rt (findS f h1 h2 st)) hp⟩
  have hfv := findV_op h3 h4
  by_cases hma2 : m = allN f
  · rw [if_pos hma2, List.nil_append] at g3
    refine fin l3 g3 fun H n b hb hl => ?_
    rw [hma2]
    by_cases ho2 : 2 < o
    · exact (cmpG hfv ho2 hb hl (fun H n b hb hl => constS' h1 h2 ho2 hb hl hva) rfl).low (lowE _) (hl.set lowRd)
    · obtain ⟨k, t, x, r, rfl, hk⟩ := hs
      obtain ⟨a4, l4, rfl, h5⟩ := key_cons g3
      exact (cmpL hfv ⟨by omega, by omega⟩ (by rintro ⟨h, _⟩; revert h; decide) hb hl (fun H n b hb hl => constN' h1 h2 (by omega) hb hl hva hk) rfl).low (lowE _) (hl.set lowRd)
  · rw [if_neg hma2] at g3
    obtain ⟨a4, l4, rfl, g4⟩ := key_cons g3
    obtain ⟨a5, l5, rfl, g5⟩ := key_cons g4
    have ho2 : o ≤ 2 := by rcases hor with h | h; exact h; exact absurd h hma2
    refine fin l5 g5 fun H n b hb hl => ?_
    have hkp : KP f o d _ _ (isE f o v m) := fun H n b hb hl => by
      have := constM' (H := H) (n := n) (b := b) (tx := hexT v.toNat) (ty := hexT m.toNat) (nu := v) (a := a3) (f := f) (o := o) (m := m) (am := a5) (a1 := a4) (l := l5) (d := d) h1 h2 ho2 hb hl hva (by omega) hma
      rw [hvm] at this
      exact this
    exact (cmpL hfv ⟨by omega, ho2⟩ (by rintro ⟨h, _⟩; revert h; decide) hb hl hkp rfl).low (lowE _) (hl.set lowRd)
end Go.Proofs.YtklcmgodhpediaaGreatDoor.K
/- What is printed is read again as what it was: whole expressions. -/
namespace Go.Proofs.YtklcmgodhpediaaGreatDoor.K
open Go Go.Vm Go.Proofs Go.Proofs.YtklcmgodhpediaaGreatDoor Go.Proofs.YtklcmgodhpediaaGreatDoor.P

def RdW (w : List UInt8) (e : E) (N : Int) : Prop := ∃ ks, LexOK w ks ∧ ∀ (d : Int) (ts : List Key) (l : List L.Tok), 0 ≤ d → d + 2 * deepE e ≤ N → StopP ts → l.map key = ks ++ ts → ∃ l', l'.map key = ts ∧ PS 84 d l l' (copyE e)
def RdE (e : E) : Prop := ∃ ks, LexOK (txE e) ks ∧ ∀ (d : Int) (ts : List Key) (l : List L.Tok), 0 ≤ d → d + 2 * deepE e ≤ 34 → StopE ts → l.map key = ks ++ ts → ∃ l', l'.map key = ts ∧ PS 27 d l l' (copyE e)
theorem RdW.mono {w : List UInt8} {e : E} {N M : Int} (h : RdW w e N) (hm : M ≤ N) : RdW w e M := by
  obtain ⟨ks, h1, h2⟩ := h
  exact ⟨ks, h1, fun d ts l h0 hd => h2 d ts l h0 (by omega)⟩
theorem RdW.lone {e : E} (h : RdW (txE e) e 34) : RdE e := by
  obtain ⟨ks, h1, h2⟩ := h
  refine ⟨ks, h1, fun d ts l h0 hd hs hl => ?_⟩
  obtain ⟨l', h3, h4⟩ := h2 d ts l h0 hd hs.part hl
  obtain ⟨k, t, x, r, rfl, _, g1, g2⟩ := hs
  obtain ⟨a, l5, rfl, h5⟩ := key_cons h3
  exact ⟨_, h3, K.lone h4 (copy_z _) ⟨k, t, x, a, l5, rfl, g1, g2⟩⟩
theorem RdE.br {e : E} (h : RdE e) : RdW (40 :: (txE e ++ [41])) e 33 := by
  obtain ⟨ks, h1, h2⟩ := h
  refine ⟨_, h1.br, fun d ts l h0 hd hs hl => ?_⟩
  have hdg := deepE_ge e
  simp only [List.cons_append, List.append_assoc, List.nil_append] at hl
  obtain ⟨a, l1, rfl, h3⟩ := key_cons hl
  obtain ⟨l2, h4, h5⟩ := h2 (d + 1) ((5, [41], 0) :: ts) l1 (by omega) (by omega) ⟨5, [41], 0, ts, rfl, by decide, by decide, by decide⟩ h3
  obtain ⟨a2, l3, rfl, h6⟩ := key_cons h4
  exact ⟨l3, h6, partBr ⟨h0, by omega⟩ h5 (copy_z _)⟩
def StopJ (op : List UInt8) (ts : List Key) : Prop := ∃ k t x r, ts = (k, t, x) :: r ∧ ¬ (k = 5 ∧ t = [47]) ∧ ¬ (k = 5 ∧ t = op)
theorem parts_jt {op : List UInt8} (h47 : op ≠ [47]) : ∀ ps : List E, (∀ p ∈ ps, RdW (brT [5, 6] p) p 33) → ∃ kss, All2 LexOK (ps.map (brT [5, 6])) kss ∧ ∀ (d : Int) (ts : List Key) (l : List L.Tok), 0 ≤ d → (∀ p ∈ ps, d + 2 * deepE p ≤ 33) → StopJ op ts →
    StopP ((kss.flatMap fun k => ((5, op, 0) : Key) :: k) ++ ts) ∧ (l.map key = (kss.flatMap fun k => ((5, op, 0) : Key) :: k) ++ ts → ∃ l', l'.map key = ts ∧ Jt op (PS 84 d) l l' (ps.map copyE))
  | [], _ => ⟨[], .nil, fun d ts l h0 hd hs => by
    obtain ⟨k, t, x, r, rfl, g1, g2⟩ := hs
    refine ⟨⟨k, t, x, r, rfl, g1⟩, fun hl => ?_⟩
    obtain ⟨a, l1, rfl, h1⟩ := key_cons hl
    exact ⟨_, hl, .stop g2⟩⟩
  | p :: r, h => by
    obtain ⟨ks, h1, h2⟩ := h p List.mem_cons_self
    obtain ⟨kss, h3, h4⟩ := parts_jt h47 r fun q hq => h q (List.mem_cons_of_mem _ hq)
    refine ⟨ks :: kss, .cons h1 h3, fun d ts l h0 hd hs => ⟨⟨5, op, 0, _, rfl, fun h => h47 h.2⟩, fun hl => ?_⟩⟩
    simp only [List.flatMap_cons, List.cons_append, List.append_assoc] at hl
    obtain ⟨a, l1, rfl, h5⟩ := key_cons hl
    obtain ⟨l2, h6, h7⟩ := h2 d _ l1 h0 (hd p List.mem_cons_self) (h4 d ts l1 h0 (fun q hq => hd q (List.mem_cons_of_mem _ hq)) hs).1 h5
    obtain ⟨l3, h8, h9⟩ := (h4 d ts l2 h0 (fun q hq => hd q (List.mem_cons_of_mem _ hq)) hs).2 h6
    exact ⟨l3, h8, .more h7 (copy_z _) h9⟩
theorem parts_all {op : List UInt8} (h47 : op ≠ [47]) (ho : op ∈ L.opsL) (h0 : ∃ c r, op = c :: r ∧ c ≠ 58) {p : E} {ps : List E} (h : ∀ q ∈ p :: ps, RdW (brT [5, 6] q) q 33) :
    ∃ ks, LexOK (Lib.join ((p :: ps).map (brT [5, 6])) (32 :: (op ++ [32]))) ks ∧ ∀ (d : Int) (ts : List Key) (l : List L.Tok), 0 ≤ d → (∀ q ∈ p :: ps, d + 2 * deepE q ≤ 33) → StopJ op ts → l.map key = ks ++ ts → ∃ l1 l', l'.map key = ts ∧ PS 84 d l l1 (copyE p) ∧ Jt op (PS 84 d) l1 l' (ps.map copyE) := by
  obtain ⟨ks, h1, h2⟩ := h p List.mem_cons_self
  obtain ⟨kss, h3, h4⟩ := parts_jt h47 ps fun q hq => h q (List.mem_cons_of_mem _ hq)
  refine ⟨joinK op (ks :: kss), LexOK.join ho h0 (.cons h1 h3) (by simp), fun d ts l hd0 hd hs hl => ?_⟩
  rw [joinK, List.append_assoc] at hl
  have hd2 : ∀ q ∈ ps, d + 2 * deepE q ≤ 33 := fun q hq => hd q (List.mem_cons_of_mem _ hq)
  obtain ⟨l2, h6, h7⟩ := h2 d _ l hd0 (hd p List.mem_cons_self) (h4 d ts l hd0 hd2 hs).1 hl
  obtain ⟨l3, h8, h9⟩ := (h4 d ts l2 hd0 hd2 hs).2 h6
  exact ⟨l2, l3, h8, h7, h9⟩
def NoAnd (l : List L.Tok) : Prop := ∃ k t x a r, l = ⟨k, t, x, a⟩ :: r ∧ ¬ (k = 5 ∧ t = [38, 38])
theorem jt_up {d : Int} {l l' : List L.Tok} {es : List E} (h : Jt [124, 124] (PS 84 d) l l' es) : NoAnd l' → Jt [124, 124] (PS 58 d) l l' es ∧ NoAnd l := by
  induction h with
  | stop hk => exact fun hn => ⟨.stop hk, hn⟩
  | @more nu a l l1 l' e es hp hz _ ih =>
    intro hn
    obtain ⟨h1, k, t, x, b, r, rfl, h2⟩ := ih hn
    exact ⟨.more (andS (es := []) hp hz (.stop h2) (by simp)) hz h1, 5, [124, 124], nu, a, l, rfl, by decide⟩
theorem copyE_of {k f o v m : Int} {z : Bool} {ps : List E} : copyE (.mk k f o v m z ps) = .mk k f o v m false (ps.map copyE) := by rw [copyE, copyEs_map]
theorem rd_all : ∀ e : E, e.Ok → ∀ d, okE d e = true → RdE e ∧ RdW (brT [5, 6] e) e 33 ∧ RdW (brT [3, 5, 6] e) e 33 := by
  refine E.ind fun k f o v m z ps ih => ?_
  intro hok d hd
  obtain ⟨_, hnode, hparts⟩ := okE_parts hd
  obtain ⟨_, _, _, hv, hm, hl, hpo⟩ := hok
  have ihp := fun q hq => ih q hq (hpo q hq) _ (hparts q hq)
  have hdp : ∀ q ∈ ps, deepE q ≤ deepEs ps := fun q hq => deepEs_mem hq
  have hde : deepE (.mk k f o v m z ps) = deepEs ps + 1 := by rw [deepE]
  have fin : (k ≠ 5 ∧ k ≠ 6 → RdW (txE (.mk k f o v m z ps)) (.mk k f o v m z ps) 34) → RdE (.mk k f o v m z ps) → RdE (.mk k f o v m z ps) ∧ RdW (brT [5, 6] (.mk k f o v m z ps)) (.mk k f o v m z ps) 33 ∧ RdW (brT [3, 5, 6] (.mk k f o v m z ps)) (.mk k f o v m z ps) 33 := by
    intro hu he
    refine ⟨he, ?_, ?_⟩
    · unfold brT
      split
      · exact he.br
      · rename_i h
        have h : ¬ k ∈ ([5, 6] : List Int) := h
        exact (hu (by simp at h; exact h)).mono (by omega)
    · unfold brT
      split
      · exact he.br
      · rename_i h
        have h : ¬ k ∈ ([3, 5, 6] : List Int) := h
        exact (hu (by simp at h; exact ⟨h.2.1, h.2.2⟩)).mono (by omega)
  have unb : (k ≠ 5 ∧ k ≠ 6 → RdW (txE (.mk k f o v m z ps)) (.mk k f o v m z ps) 34) := by
    intro h56
    have hk : (k = 1 ∨ k = 2) ∨ k = 3 ∨ k = 4 := by unfold nodeP at hnode; omega
    rcases hk with hk | rfl | rfl
    · have hb : f = 0 ∧ o = 0 ∧ v = 0 ∧ m = 0 ∧ ps.length = 0 := by unfold nodeP at hnode; omega
      obtain ⟨rfl, rfl, rfl, rfl, hp0⟩ := hb
      obtain rfl := List.eq_nil_of_length_eq_zero hp0
      rcases hk with rfl | rfl
      · refine ⟨_, LexOK.one 1, fun d ts l h0 hdd hs hl => ?_⟩
        obtain ⟨a, l1, rfl, h1⟩ := key_cons hl
        exact ⟨l1, h1, part1⟩
      · refine ⟨_, LexOK.one 0, fun d ts l h0 hdd hs hl => ?_⟩
        obtain ⟨a, l1, rfl, h1⟩ := key_cons hl
        exact ⟨l1, h1, part0⟩
    · have hn3 := node_is hnode rfl
      have hp0 : ps.length = 0 := (node3.1 hnode).1
      obtain rfl := List.eq_nil_of_length_eq_zero hp0
      have htx : txE (.mk 3 f o v m z []) = isT f o v m := by rw [txE, if_neg (by decide), if_neg (by decide), if_pos rfl]
      rw [htx]
      refine ⟨_, lex_is ⟨hn3.1, hn3.2.1⟩ hn3.2.2 ⟨hv.1, by omega⟩ ⟨hm.1, by omega⟩, fun d ts l h0 hdd hs hl => ?_⟩
      exact parse_is (z := z) hnode ⟨hv.1, by omega⟩ ⟨hm.1, by omega⟩ hs hl
    · have hb : f = 0 ∧ o = 0 ∧ v = 0 ∧ m = 0 ∧ ps.length = 1 := by unfold nodeP at hnode; omega
      obtain ⟨rfl, rfl, rfl, rfl, hp1⟩ := hb
      obtain ⟨q, hq0, hqm, rfl⟩ := first_of hp1
      obtain ⟨ks, h1, h2⟩ := (ihp q hqm).2.2
      have htx : txE (.mk 4 0 0 0 0 z [q]) = 33 :: brT [3, 5, 6] q := by rw [txE, if_neg (by decide), if_neg (by decide), if_neg (by decide), if_pos rfl, first_br (q := q) rfl]
      rw [htx]
      refine ⟨_, h1.not, fun d ts l h0 hdd hs hl => ?_⟩
      have := hdp q hqm
      have hdg := deepE_ge q
      obtain ⟨a, l1, rfl, h3⟩ := key_cons hl
      obtain ⟨l2, h4, h5⟩ := h2 (d + 1) ts l1 (by omega) (by omega) hs h3
      exact ⟨l2, h4, partNot ⟨h0, by omega⟩ h5 (copy_z _)⟩
  refine fin unb ?_
  by_cases h56 : k = 5 ∨ k = 6
  · have hb : f = 0 ∧ o = 0 ∧ v = 0 ∧ m = 0 ∧ 2 ≤ ps.length := by unfold nodeP at hnode; omega
    obtain ⟨rfl, rfl, rfl, rfl, hp2⟩ := hb
    obtain ⟨p, p2, r, rfl⟩ : ∃ p p2 r, ps = p :: p2 :: r := by
      match ps, hp2 with
      | p :: p2 :: r, _ => exact ⟨p, p2, r, rfl⟩
    have hlen : ((p2 :: r).map copyE).length ≤ 2199023255551 := by rw [List.length_map]; simp only [List.length_cons] at hl ⊢; omega
    rcases h56 with rfl | rfl
    · obtain ⟨ks, h1, h2⟩ := parts_all (op := [38, 38]) (by decide) (by decide) ⟨38, [38], rfl, by decide⟩ (p := p) (ps := p2 :: r) fun q hq => (ihp q hq).2.1
      have htx : txE (.mk 5 0 0 0 0 z (p :: p2 :: r)) = Lib.join ((p :: p2 :: r).map (brT [5, 6])) (32 :: ([38, 38] ++ [32])) := by
        rw [txE, if_neg (by omega), if_neg (by omega), if_neg (by omega), if_neg (by omega), txEs_map]; rfl
      refine ⟨ks, by rw [htx]; exact h1, fun d ts l h0 hdd hs hl => ?_⟩
      obtain ⟨k, t, x, rr, rfl, g1, g2, g3⟩ := hs
      obtain ⟨l1, l', h3, h4, h5⟩ := h2 d _ l h0 (fun q hq => by have := hdp q hq; omega) ⟨k, t, x, rr, rfl, g1, g2⟩ hl
      obtain ⟨a, l5, rfl, h6⟩ := key_cons h3
      refine ⟨_, h3, ?_⟩
      rw [copyE_of]
      exact orS (es := []) (andS h4 (copy_z _) h5 hlen) rfl (.stop g3) (by simp)
    · obtain ⟨ks, h1, h2⟩ := parts_all (op := [124, 124]) (by decide) (by decide) ⟨124, [124], rfl, by decide⟩ (p := p) (ps := p2 :: r) fun q hq => (ihp q hq).2.1
      have htx : txE (.mk 6 0 0 0 0 z (p :: p2 :: r)) = Lib.join ((p :: p2 :: r).map (brT [5, 6])) (32 :: ([124, 124] ++ [32])) := by
        rw [txE, if_neg (by omega), if_neg (by omega), if_neg (by omega), if_neg (by omega), txEs_map]; rfl
      refine ⟨ks, by rw [htx]; exact h1, fun d ts l h0 hdd hs hl => ?_⟩
      obtain ⟨k, t, x, rr, rfl, g1, g2, g3⟩ := hs
      obtain ⟨l1, l', h3, h4, h5⟩ := h2 d _ l h0 (fun q hq => by have := hdp q hq; omega) ⟨k, t, x, rr, rfl, g1, g3⟩ hl
      obtain ⟨a, l5, rfl, h6⟩ := key_cons h3
      obtain ⟨h7, k2, t2, x2, b2, r2, rfl, h8⟩ := jt_up h5 ⟨k, t, x, a, l5, rfl, g2⟩
      refine ⟨_, h3, ?_⟩
      rw [copyE_of]
      exact orS (andS (es := []) h4 (copy_z _) (.stop h8) (by simp)) (copy_z _) h7 hlen
  · exact (unb (by omega)).lone
theorem parse_text {e : E} (hok : e.Ok) {d : Int} (hd : okE d e = true) (hdeep : deepE e ≤ 8) (hlen : (txE e).length ≤ 4096) (st : St) : FnS YtklcmgodhpediaaGreatDoor.cx 13 [.str (txE e), .sl .full []] st (.tup [(copyE e).c, .int .i64 0, .int .i64 0]) st := by
  obtain ⟨ks, h1, h2⟩ := (rd_all e hok d hd).1
  have hx := h1.lex [] _ Lx.nil (.inl rfl)
  rw [List.append_nil] at hx
  obtain ⟨l, h3, h4⟩ := hx.lexA hlen
  obtain ⟨l', h5, h6⟩ := h2 0 [(7, [], 0)] l (by omega) (by omega) ⟨7, [], 0, [], rfl, by decide, by decide, by decide⟩ h4
  obtain ⟨a, l5, rfl, h7⟩ := key_cons h5
  obtain rfl : l5 = [] := by simpa using h7
  exact tr (parseS (Nat.le_trans hlen (by decide)) h3 h6 (copy_z _) st)
end Go.Proofs.YtklcmgodhpediaaGreatDoor.K
