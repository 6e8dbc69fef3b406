/- Print, the program's and the document's. -/
import Derived.Test.YtklcmgodhpediaaGreatDoorExR6
import Derived.Test.YtklcmgodhpediaaGreatDoorExR8
import Derived.Test.YtklcmgodhpediaaGreatDoorExL1
set_option linter.unusedSimpArgs false
set_option linter.unusedVariables false
set_option maxRecDepth 100000
namespace Go.Proofs.YtklcmgodhpediaaGreatDoor.P
open Go Go.Vm Go.Proofs Go.Proofs.YtklcmgodhpediaaGreatDoor

def prE (e : E) : List UInt8 := if okE 1 e then txE e else []

theorem PrintS (e : E) (hok : e.Ok) (hnd : okE 1 e = true → ndE e ≤ 1099511627776) (st : St) : FnS cx 7 [e.c] st (.str (prE e)) st := by
  have hck := CheckS e hok
  have hu := unown_c e
  have hp := E.pure e
  have htx : okE 1 e = true → ∀ st, FnS cx 22 [e.c, .sl .full []] st (.str (txE e)) st := fun h => by
    have hnd := hnd h
    exact fun st => by have := textS e hok 1 h hnd [] st (by simp); rw [br_nil] at this; exact this
  unfold prE
  generalize txE e = X at htx ⊢
  obtain ⟨y0, y1, y2, y3, y4, y5, hy⟩ := c_six e
  rw [hy] at hck hu hp htx ⊢
  cases h : okE 1 e
  · rw [chk_no h] at hck
    clear htx
    rw [if_neg (by simp)]
    refine goP Tryz.func7 rfl rfl rfl rfl ?_ ?_
    · simp only [List.map_cons, List.map_nil, hu, pureVs, hp, Bool.and_self]
    intro t ht
    have a0 : tget t 0 = .agg [y0, y1, y2, y3, y4, y5] := ht 0 _ (by simp only [List.map_cons, hu]; rfl)
    clear ht
    have ex := And.intro @a0 (And.intro @hpB (And.intro @hpE @zvR))
    repeat' (first
     | (with_reducible refine isO ?_); first | refine mvA (h := ?_) | refine asA (h := ?_) | refine quA (h := ?_) | refine caA (hc := (hck _)) (h := ?_)
     | (with_reducible refine isC ?_); first | refine ctA (h := ?_) | refine cfA (h := ?_) | refine cdA (h1 := fun _ => ?_) (h0 := fun _ => ?_) | refine cbA (h1 := fun _ => ?_) (h0 := fun _ => ?_)
     | with_reducible first | refine Ev.seq ?_ | refine Ev.ops ?_ | refine NxE ?_ | refine BxN ?_ | refine BxX ?_ | refine NxX ?_ | refine NxR ?_ | refine BxR ?_ | refine Ev.block ?_ | refine Ev.skip ?_ | refine Ev.exit ?_ | refine Ev.ret ?_ | refine EvOps.nil ?_ | refine EvPlan.nil ?_
     | (with_reducible refine BxO ?_ ?_; · decide)
     )
    refine lfA (rl := [.tmp 2]) rfl (hv := by
      simp only [packV, strip, stripAgg, stripCell, List.map_cons, List.map_nil]
      first | done | rfl) (hp := rfl)
  · rw [chk_of h] at hck
    have htx := htx h
    rw [if_pos rfl]
    refine goP Tryz.func7 rfl rfl rfl rfl ?_ ?_
    · simp only [List.map_cons, List.map_nil, hu, pureVs, hp, Bool.and_self]
    intro t ht
    have a0 : tget t 0 = .agg [y0, y1, y2, y3, y4, y5] := ht 0 _ (by simp only [List.map_cons, hu]; rfl)
    clear ht
    have ex := And.intro @a0 (And.intro @hpB (And.intro @hpE @zvR))
    repeat' (first
     | (with_reducible refine isO ?_); first | refine mvA (h := ?_) | refine asA (h := ?_) | refine quA (h := ?_) | refine caA (hc := (hck _)) (h := ?_) | refine caA (hc := (htx _)) (h := ?_)
     | (with_reducible refine isC ?_); first | refine ctA (h := ?_) | refine cfA (h := ?_) | refine cdA (h1 := fun _ => ?_) (h0 := fun _ => ?_) | refine cbA (h1 := fun _ => ?_) (h0 := fun _ => ?_)
     | with_reducible first | refine Ev.seq ?_ | refine Ev.ops ?_ | refine NxE ?_ | refine BxN ?_ | refine BxX ?_ | refine NxX ?_ | refine NxR ?_ | refine BxR ?_ | refine Ev.block ?_ | refine Ev.skip ?_ | refine Ev.exit ?_ | refine Ev.ret ?_ | refine EvOps.nil ?_ | refine EvPlan.nil ?_
     | (with_reducible refine BxO ?_ ?_; · decide)
     )
    refine lfA (rl := [.tmp 2]) rfl (hv := by
      simp only [packV, strip, stripAgg, stripCell, List.map_cons, List.map_nil]
      first | done | rfl) (hp := rfl)

theorem RPrintS (e : E) (hok : e.Ok) (hnd : okE 1 e = true → ndE e ≤ 1099511627776) (st : St) : FnS cx 9 [e.c] st (.str (prE e)) st := by
  have hck := RCheckS e hok
  have hu := unown_c e
  have hp := E.pure e
  have htx : okE 1 e = true → ∀ st, FnS cx 23 [e.c] st (.str (txE e)) st := fun h => by
    have hnd := hnd h
    exact fun st => refS e hok 1 h hnd st
  unfold prE
  generalize txE e = X at htx ⊢
  obtain ⟨y0, y1, y2, y3, y4, y5, hy⟩ := c_six e
  rw [hy] at hck hu hp htx ⊢
  cases h : okE 1 e
  · rw [chk_no h] at hck
    clear htx
    rw [if_neg (by simp)]
    refine goP Tryz.func9 rfl rfl rfl rfl ?_ ?_
    · simp only [List.map_cons, List.map_nil, hu, pureVs, hp, Bool.and_self]
    intro t ht
    have a0 : tget t 0 = .agg [y0, y1, y2, y3, y4, y5] := ht 0 _ (by simp only [List.map_cons, hu]; rfl)
    clear ht
    have ex := And.intro @a0 (And.intro @hpB (And.intro @hpE @zvR))
    repeat' (first
     | (with_reducible refine isO ?_); first | refine mvA (h := ?_) | refine asA (h := ?_) | refine quA (h := ?_) | refine caA (hc := (hck _)) (h := ?_)
     | (with_reducible refine isC ?_); first | refine ctA (h := ?_) | refine cfA (h := ?_) | refine cdA (h1 := fun _ => ?_) (h0 := fun _ => ?_) | refine cbA (h1 := fun _ => ?_) (h0 := fun _ => ?_)
     | with_reducible first | refine Ev.seq ?_ | refine Ev.ops ?_ | refine NxE ?_ | refine BxN ?_ | refine BxX ?_ | refine NxX ?_ | refine NxR ?_ | refine BxR ?_ | refine Ev.block ?_ | refine Ev.skip ?_ | refine Ev.exit ?_ | refine Ev.ret ?_ | refine EvOps.nil ?_ | refine EvPlan.nil ?_
     | (with_reducible refine BxO ?_ ?_; · decide)
     )
    refine lfA (rl := [.tmp 2]) rfl (hv := by
      simp only [packV, strip, stripAgg, stripCell, List.map_cons, List.map_nil]
      first | done | rfl) (hp := rfl)
  · rw [chk_of h] at hck
    have htx := htx h
    rw [if_pos rfl]
    refine goP Tryz.func9 rfl rfl rfl rfl ?_ ?_
    · simp only [List.map_cons, List.map_nil, hu, pureVs, hp, Bool.and_self]
    intro t ht
    have a0 : tget t 0 = .agg [y0, y1, y2, y3, y4, y5] := ht 0 _ (by simp only [List.map_cons, hu]; rfl)
    clear ht
    have ex := And.intro @a0 (And.intro @hpB (And.intro @hpE @zvR))
    repeat' (first
     | (with_reducible refine isO ?_); first | refine mvA (h := ?_) | refine asA (h := ?_) | refine quA (h := ?_) | refine caA (hc := (hck _)) (h := ?_) | refine caA (hc := (htx _)) (h := ?_)
     | (with_reducible refine isC ?_); first | refine ctA (h := ?_) | refine cfA (h := ?_) | refine cdA (h1 := fun _ => ?_) (h0 := fun _ => ?_) | refine cbA (h1 := fun _ => ?_) (h0 := fun _ => ?_)
     | with_reducible first | refine Ev.seq ?_ | refine Ev.ops ?_ | refine NxE ?_ | refine BxN ?_ | refine BxX ?_ | refine NxX ?_ | refine NxR ?_ | refine BxR ?_ | refine Ev.block ?_ | refine Ev.skip ?_ | refine Ev.exit ?_ | refine Ev.ret ?_ | refine EvOps.nil ?_ | refine EvPlan.nil ?_
     | (with_reducible refine BxO ?_ ?_; · decide)
     )
    refine lfA (rl := [.tmp 2]) rfl (hv := by
      simp only [packV, strip, stripAgg, stripCell, List.map_cons, List.map_nil]
      first | done | rfl) (hp := rfl)
end Go.Proofs.YtklcmgodhpediaaGreatDoor.P
/- The law ExprPrints, walked. -/
namespace Go.Proofs.YtklcmgodhpediaaGreatDoor.P
open Go Go.Vm Go.Proofs Go.Proofs.YtklcmgodhpediaaGreatDoor

/-! An expression in new memory says the same. -/
theorem copy_kd (e : E) : E.kd (copyE e) = E.kd e := by cases e; rw [copyE]; rfl
theorem copy_br {bs : List Int} {e : E} (h : txE (copyE e) = txE e) : brT bs (copyE e) = brT bs e := by unfold brT; rw [copy_kd, h]
theorem map_same {α : Type} {f : E → α} {ps : List E} (h : ∀ q ∈ ps, f (copyE q) = f q) : (ps.map copyE).map f = ps.map f := by
  rw [List.map_map]; exact List.map_congr_left h
theorem first_copy {ps : List E} (h : ∀ q ∈ ps, txE (copyE q) = txE q) : firstT (ps.map copyE) = firstT ps := by
  cases ps with
  | nil => rfl
  | cons p r => rw [List.map_cons, first_br (q := copyE p) rfl, first_br (q := p) rfl, copy_br (h p List.mem_cons_self)]
theorem copy_tx : ∀ e : E, txE (copyE e) = txE e := E.ind fun k f o v m z ps ih => by
  rw [K.copyE_of, txE, txE, txEs_map, txEs_map, map_same fun q hq => copy_br (ih q hq), first_copy ih]
theorem copy_okE : ∀ e : E, ∀ d, okE d (copyE e) = okE d e := E.ind fun k f o v m z ps ih => by
  intro d
  have h : okEs (d + 1) (ps.map copyE) = okEs (d + 1) ps := by
    apply bool_iff
    rw [okEs_iff, okEs_iff]
    constructor
    · intro h q hq
      have := h (copyE q) (List.mem_map_of_mem hq)
      rwa [ih q hq] at this
    · intro h q hq
      obtain ⟨x, hx, rfl⟩ := List.mem_map.1 hq
      rw [ih x hx]; exact h x hx
  rw [K.copyE_of, okE, okE, h, List.length_map]
theorem copy_nd : ∀ e : E, ndE (copyE e) = ndE e := E.ind fun k f o v m z ps ih => by
  have h : ∀ ps : List E, (∀ q ∈ ps, ndE (copyE q) = ndE q) → ndEs (ps.map copyE) = ndEs ps := by
    intro ps
    induction ps with
    | nil => intro _; rfl
    | cons a r ihr => intro h; rw [List.map_cons, ndEs, ndEs, h a List.mem_cons_self, ihr fun q hq => h q (List.mem_cons_of_mem _ hq)]
  rw [K.copyE_of, ndE, ndE, h ps ih]
theorem copy_neg : ∀ e : E, ∀ b, negE (copyE e) b = negE e b := E.ind fun k f o v m z ps ih => by
  intro b
  have h1 : ∀ c, negEs (ps.map copyE) c = negEs ps c := fun c => by
    rw [negEs_map, negEs_map]; exact map_same fun q hq => ih q hq c
  have h2 : ∀ c, firstN (ps.map copyE) c = firstN ps c := fun c => by
    cases ps with
    | nil => rfl
    | cons p r => rw [List.map_cons, firstN_at (q := copyE p) rfl, firstN_at (q := p) rfl, ih p List.mem_cons_self]
  rw [K.copyE_of, negE, negE, h1, h2]
theorem copy_pr (e : E) : prE (copyE e) = prE e := by unfold prE; rw [copy_okE, copy_tx]
theorem copy_X {Hh : Int → Bool} {R : Int → Int} (e : E) : holdsX Hh R (copyE e) = holdsX Hh R e := by unfold holdsX; rw [copy_okE, copy_neg]
theorem neP : ∀ a b : Bool, Vm.eqT cx 9 4 (.bool a) (.bool b) = some (a == b) := fun a b => by cases a <;> cases b <;> rfl

set_option maxHeartbeats 16000000 in
theorem lawPrints {SC : List V} {Hh : Int → Bool} {R : Int → Int} (hS : StOk SC Hh R) (e : E) (hok : e.Ok) (hnd : okE 1 e = true → ndE e ≤ 1099511627776) (st : St) : FnS cx 3 [e.c, .agg SC] st (.bool true) st := by
  have hld := hS.load
  have hlv := livesS
  have hpr := PrintS e hok hnd
  have hrp := RPrintS e hok hnd
  have hck := CheckS e hok
  have hrc := RCheckS e hok
  have hho := HoldsS hS e hok
  have hu := unown_c e
  have hp := E.pure e
  have hok2 := copy_Ok e hok
  have hpr2 := PrintS (copyE e) hok2 (by rw [copy_okE, copy_nd]; exact hnd)
  have hho2 := HoldsS hS (copyE e) hok2
  rw [copy_pr] at hpr2
  rw [copy_X] at hho2
  have hpe : okE 1 e = true → prE e = txE e := fun h => by unfold prE; rw [if_pos h]
  have hdp := fun h => deepS e hok 1 (by omega) h
  have hps := fun h hd hl => K.parse_text hok (d := 1) h hd hl
  cases h : okE 1 e
  · rw [chk_no h] at hck hrc
    clear hdp hps hpe hpr2 hho2
    generalize prE e = X at hpr hrp
    have exx : decide (X = X) = true := by simp
    obtain ⟨y0, y1, y2, y3, y4, y5, hy⟩ := c_six e
    rw [hy] at hpr hrp hck hrc hu hp hho ⊢
    refine goP Tryz.func3 rfl rfl rfl rfl ?_ ?_
    · simp only [List.map_cons, List.map_nil, hu, hS.own]; show (pureV (.agg [y0, y1, y2, y3, y4, y5]) && (pureVs SC && true)) = true; rw [hp, hS.pure]; rfl
    intro t ht
    have a0 : tget t 0 = .agg [y0, y1, y2, y3, y4, y5] := ht 0 _ (by simp only [List.map_cons, hu]; rfl)
    have a1 : tget t 1 = .agg SC := ht 1 _ (by simp only [List.map_cons, hS.own]; rfl)
    clear ht
    have ex := And.intro @a0 (And.intro @a1 (And.intro @hpB (And.intro @hpE (And.intro @zvR (And.intro @neP (And.intro @bbE @exx))))))
    have exd := @hld
    repeat' (first
     | (with_reducible refine isO ?_); first | refine mvA (h := ?_) | refine asA (h := ?_) | refine quA (h := ?_) | refine wnA (h := ?_) | refine caA (hc := hpr _) (h := ?_) | refine caA (hc := hrc _) (h := ?_)
     | (with_reducible refine isG ?_); first | refine stA (h := ?_) | refine srA (h := ?_) | refine swA (h := ?_) | refine s1A (h := ?_) | refine s0A (h := ?_) | refine sgA (h1 := fun _ => ?_) (h0 := fun _ => ?_) | refine sbA (h1 := fun _ => ?_) (h0 := fun _ => ?_)
     | (with_reducible refine isP ?_); first | refine dqA (h := ?_) | refine dqAG (h := ?_) | refine dcA (i := 0) (l := []) (hc := hlv _) (h := ?_) | refine dcAG (i := 5) (l := []) (hc := hrp _) (h := ?_) | refine dcAG (i := 10) (l := [11]) (hc := hck _) (h := ?_) | refine dcAG (i := 12) (l := []) (hc := hrc _) (h := ?_) | refine dcAG (i := 4) (l := []) (hc := hpr _) (h := ?_) | refine dsA (h := ?_) | refine dtA (h := ?_) | refine dgA (h1 := fun _ => ?_) (h0 := fun _ => ?_)
     | (with_reducible refine isC ?_); first | refine ctA (h := ?_) | refine cfA (h := ?_) | refine cdA (h1 := fun _ => ?_) (h0 := fun _ => ?_) | refine cbA (h1 := fun _ => ?_) (h0 := fun _ => ?_)
     | (with_reducible refine isR ?_); first
       | refine Ev.drawn (by decide +kernel) (l := [0, 1, 2, 3, 4, 5, 6, 7, 8, 9, 11, 10, 12, 13, 14]) (by decide +kernel) ?_
       | refine Ev.drawn (by decide +kernel) (l := [0, 1, 2, 3, 5, 4, 6, 7, 8, 9, 10, 12, 13, 11, 14, 15, 16, 17]) (by decide +kernel) ?_
     | with_reducible first | refine Ev.seq ?_ | refine Ev.ops ?_ | refine NxE ?_ | refine BxN ?_ | refine BxX ?_ | refine NxX ?_ | refine NxR ?_ | refine BxR ?_ | refine Ev.block ?_ | refine Ev.skip ?_ | refine Ev.exit ?_ | refine Ev.ret ?_ | refine EvOps.nil ?_ | refine EvPlan.nil ?_
     | (with_reducible refine BxO ?_ ?_; · decide)
     )
    all_goals refine lfA (rl := [.tmp 4]) rfl (hv := by
      simp only [packV, strip, stripAgg, stripCell, List.map_cons, List.map_nil]
      first | done | rfl) (hp := rfl)
  · rw [chk_of h] at hck hrc
    have hdp := hdp h
    have hps := hps h
    rw [← hpe h] at hps
    clear hpe
    generalize prE e = X at hpr hrp hpr2 hps
    generalize holdsX Hh R e = B at hho hho2
    generalize deepE e = dq at hdp hps
    have exx : decide (X = X) = true := by simp
    obtain ⟨y0, y1, y2, y3, y4, y5, hy⟩ := c_six e
    obtain ⟨x0, x1, x2, x3, x4, x5, hx⟩ := c_six (copyE e)
    rw [hy] at hpr hrp hck hrc hu hp hho hdp ⊢
    rw [hx] at hpr2 hho2 hps
    by_cases hl : (X.length : Int) > 4096
    · have q1 : decide ((X.length : Int) > 4096) = true := by simp; omega
      refine goP Tryz.func3 rfl rfl rfl rfl ?_ ?_
      · simp only [List.map_cons, List.map_nil, hu, hS.own]; show (pureV (.agg [y0, y1, y2, y3, y4, y5]) && (pureVs SC && true)) = true; rw [hp, hS.pure]; rfl
      intro t ht
      have a0 : tget t 0 = .agg [y0, y1, y2, y3, y4, y5] := ht 0 _ (by simp only [List.map_cons, hu]; rfl)
      have a1 : tget t 1 = .agg SC := ht 1 _ (by simp only [List.map_cons, hS.own]; rfl)
      clear ht
      have ex := And.intro @a0 (And.intro @a1 (And.intro @hpB (And.intro @hpE (And.intro @zvR (And.intro @neP (And.intro @bbE (And.intro @exx @q1)))))))
      have exd := @hld
      repeat' (first
       | (with_reducible refine isO ?_); first | refine mvA (h := ?_) | refine asA (h := ?_) | refine quA (h := ?_) | refine wnA (h := ?_) | refine caA (hc := hpr _) (h := ?_) | refine caA (hc := hrc _) (h := ?_)
       | (with_reducible refine isG ?_); first | refine stA (h := ?_) | refine srA (h := ?_) | refine swA (h := ?_) | refine s1A (h := ?_) | refine s0A (h := ?_) | refine sgA (h1 := fun _ => ?_) (h0 := fun _ => ?_) | refine sbA (h1 := fun _ => ?_) (h0 := fun _ => ?_)
       | (with_reducible refine isP ?_); first | refine dqA (h := ?_) | refine dqAG (h := ?_) | refine dcA (i := 0) (l := []) (hc := hlv _) (h := ?_) | refine dcAG (i := 5) (l := []) (hc := hrp _) (h := ?_) | refine dcAG (i := 10) (l := [11]) (hc := hck _) (h := ?_) | refine dcAG (i := 12) (l := []) (hc := hrc _) (h := ?_) | refine dcAG (i := 4) (l := []) (hc := hpr _) (h := ?_) | refine dsA (h := ?_) | refine dtA (h := ?_) | refine dgA (h1 := fun _ => ?_) (h0 := fun _ => ?_)
       | (with_reducible refine isC ?_); first | refine ctA (h := ?_) | refine cfA (h := ?_) | refine cdA (h1 := fun _ => ?_) (h0 := fun _ => ?_) | refine cbA (h1 := fun _ => ?_) (h0 := fun _ => ?_)
       | (with_reducible refine isR ?_); first
         | refine Ev.drawn (by decide +kernel) (l := [0, 1, 2, 3, 4, 5, 6, 7, 8, 9, 11, 10, 12, 13, 14]) (by decide +kernel) ?_
         | refine Ev.drawn (by decide +kernel) (l := [0, 1, 2, 3, 5, 4, 6, 7, 8, 9, 10, 12, 13, 11, 14, 15, 16, 17]) (by decide +kernel) ?_
       | with_reducible first | refine Ev.seq ?_ | refine Ev.ops ?_ | refine NxE ?_ | refine BxN ?_ | refine BxX ?_ | refine NxX ?_ | refine NxR ?_ | refine BxR ?_ | refine Ev.block ?_ | refine Ev.skip ?_ | refine Ev.exit ?_ | refine Ev.ret ?_ | refine EvOps.nil ?_ | refine EvPlan.nil ?_
       | (with_reducible refine BxO ?_ ?_; · decide)
       )
      all_goals refine lfA (rl := [.tmp 4]) rfl (hv := by
      simp only [packV, strip, stripAgg, stripCell, List.map_cons, List.map_nil]
      first | done | rfl) (hp := rfl)
    have q1 : decide ((X.length : Int) > 4096) = false := by simp; omega
    by_cases hd : dq > 8
    · have q2 : decide (dq > 8) = true := by simp; omega
      refine goP Tryz.func3 rfl rfl rfl rfl ?_ ?_
      · simp only [List.map_cons, List.map_nil, hu, hS.own]; show (pureV (.agg [y0, y1, y2, y3, y4, y5]) && (pureVs SC && true)) = true; rw [hp, hS.pure]; rfl
      intro t ht
      have a0 : tget t 0 = .agg [y0, y1, y2, y3, y4, y5] := ht 0 _ (by simp only [List.map_cons, hu]; rfl)
      have a1 : tget t 1 = .agg SC := ht 1 _ (by simp only [List.map_cons, hS.own]; rfl)
      clear ht
      have ex := And.intro @a0 (And.intro @a1 (And.intro @hpB (And.intro @hpE (And.intro @zvR (And.intro @neP (And.intro @bbE (And.intro @exx (And.intro @q1 @q2))))))))
      have exd := @hld
      repeat' (first
       | (with_reducible refine isO ?_); first | refine mvA (h := ?_) | refine asA (h := ?_) | refine quA (h := ?_) | refine wnA (h := ?_) | refine caA (hc := hpr _) (h := ?_) | refine caA (hc := hrc _) (h := ?_) | refine caA (hc := hdp _) (h := ?_)
       | (with_reducible refine isG ?_); first | refine stA (h := ?_) | refine srA (h := ?_) | refine swA (h := ?_) | refine s1A (h := ?_) | refine s0A (h := ?_) | refine sgA (h1 := fun _ => ?_) (h0 := fun _ => ?_) | refine sbA (h1 := fun _ => ?_) (h0 := fun _ => ?_)
       | (with_reducible refine isP ?_); first | refine dqA (h := ?_) | refine dqAG (h := ?_) | refine dcA (i := 0) (l := []) (hc := hlv _) (h := ?_) | refine dcAG (i := 5) (l := []) (hc := hrp _) (h := ?_) | refine dcAG (i := 10) (l := [11]) (hc := hck _) (h := ?_) | refine dcAG (i := 12) (l := []) (hc := hrc _) (h := ?_) | refine dcAG (i := 4) (l := []) (hc := hpr _) (h := ?_) | refine dsA (h := ?_) | refine dtA (h := ?_) | refine dgA (h1 := fun _ => ?_) (h0 := fun _ => ?_)
       | (with_reducible refine isC ?_); first | refine ctA (h := ?_) | refine cfA (h := ?_) | refine cdA (h1 := fun _ => ?_) (h0 := fun _ => ?_) | refine cbA (h1 := fun _ => ?_) (h0 := fun _ => ?_)
       | (with_reducible refine isR ?_); first
         | refine Ev.drawn (by decide +kernel) (l := [0, 1, 2, 3, 4, 5, 6, 7, 8, 9, 11, 10, 12, 13, 14]) (by decide +kernel) ?_
         | refine Ev.drawn (by decide +kernel) (l := [0, 1, 2, 3, 5, 4, 6, 7, 8, 9, 10, 12, 13, 11, 14, 15, 16, 17]) (by decide +kernel) ?_
       | with_reducible first | refine Ev.seq ?_ | refine Ev.ops ?_ | refine NxE ?_ | refine BxN ?_ | refine BxX ?_ | refine NxX ?_ | refine NxR ?_ | refine BxR ?_ | refine Ev.block ?_ | refine Ev.skip ?_ | refine Ev.exit ?_ | refine Ev.ret ?_ | refine EvOps.nil ?_ | refine EvPlan.nil ?_
       | (with_reducible refine BxO ?_ ?_; · decide)
       )
      all_goals refine lfA (rl := [.tmp 4]) rfl (hv := by
      simp only [packV, strip, stripAgg, stripCell, List.map_cons, List.map_nil]
      first | done | rfl) (hp := rfl)
    have q2 : decide (dq > 8) = false := by simp; omega
    have hps := hps (by omega) (by omega)
    refine goP Tryz.func3 rfl rfl rfl rfl ?_ ?_
    · simp only [List.map_cons, List.map_nil, hu, hS.own]; show (pureV (.agg [y0, y1, y2, y3, y4, y5]) && (pureVs SC && true)) = true; rw [hp, hS.pure]; rfl
    intro t ht
    have a0 : tget t 0 = .agg [y0, y1, y2, y3, y4, y5] := ht 0 _ (by simp only [List.map_cons, hu]; rfl)
    have a1 : tget t 1 = .agg SC := ht 1 _ (by simp only [List.map_cons, hS.own]; rfl)
    clear ht
    have ex := And.intro @a0 (And.intro @a1 (And.intro @hpB (And.intro @hpE (And.intro @zvR (And.intro @neP (And.intro @bbE (And.intro @exx (And.intro @q1 @q2))))))))
    have exd := @hld
    repeat' (first
     | (with_reducible refine isO ?_); first | refine mvA (h := ?_) | refine asA (h := ?_) | refine quA (h := ?_) | refine wnA (h := ?_) | refine caA (hc := hpr _) (h := ?_) | refine caA (hc := hpr2 _) (h := ?_) | refine caA (hc := hrc _) (h := ?_) | refine caA (hc := hdp _) (h := ?_) | refine caA (hc := hps _) (h := ?_)
     | (with_reducible refine isG ?_); first | refine stA (h := ?_) | refine srA (h := ?_) | refine swA (h := ?_) | refine s1A (h := ?_) | refine s0A (h := ?_) | refine sgA (h1 := fun _ => ?_) (h0 := fun _ => ?_) | refine sbA (h1 := fun _ => ?_) (h0 := fun _ => ?_)
     | (with_reducible refine isP ?_); first | refine dqA (h := ?_) | refine dqAG (h := ?_) | refine dcA (i := 0) (l := []) (hc := hlv _) (h := ?_) | refine dcAG (i := 5) (l := []) (hc := hrp _) (h := ?_) | refine dcAG (i := 10) (l := [11]) (hc := hck _) (h := ?_) | refine dcAG (i := 12) (l := []) (hc := hrc _) (h := ?_) | refine dcAG (i := 4) (l := []) (hc := hpr _) (h := ?_) | refine dcAG (i := 4) (l := []) (hc := hpr2 _) (h := ?_) | refine dcAG (i := 11) (l := [13, 12]) (hc := hho _) (h := ?_) | refine dcAG (i := 11) (l := [13, 12]) (hc := hho2 _) (h := ?_) | refine dcAG (i := 14) (l := []) (hc := hho _) (h := ?_) | refine dcAG (i := 14) (l := []) (hc := hho2 _) (h := ?_) | refine dsA (h := ?_) | refine dtA (h := ?_) | refine dgA (h1 := fun _ => ?_) (h0 := fun _ => ?_)
     | (with_reducible refine isC ?_); first | refine ctA (h := ?_) | refine cfA (h := ?_) | refine cdA (h1 := fun _ => ?_) (h0 := fun _ => ?_) | refine cbA (h1 := fun _ => ?_) (h0 := fun _ => ?_)
     | (with_reducible refine isR ?_); first
       | refine Ev.drawn (by decide +kernel) (l := [0, 1, 2, 3, 4, 5, 6, 7, 8, 9, 11, 10, 12, 13, 14]) (by decide +kernel) ?_
       | refine Ev.drawn (by decide +kernel) (l := [0, 1, 2, 3, 5, 4, 6, 7, 8, 9, 10, 12, 13, 11, 14, 15, 16, 17]) (by decide +kernel) ?_
     | with_reducible first | refine Ev.seq ?_ | refine Ev.ops ?_ | refine NxE ?_ | refine BxN ?_ | refine BxX ?_ | refine NxX ?_ | refine NxR ?_ | refine BxR ?_ | refine Ev.block ?_ | refine Ev.skip ?_ | refine Ev.exit ?_ | refine Ev.ret ?_ | refine EvOps.nil ?_ | refine EvPlan.nil ?_
     | (with_reducible refine BxO ?_ ?_; · decide)
     )
    all_goals refine lfA (rl := [.tmp 4]) rfl (hv := by
      simp only [packV, strip, stripAgg, stripCell, List.map_cons, List.map_nil]
      first | done | rfl) (hp := rfl)
end Go.Proofs.YtklcmgodhpediaaGreatDoor.P
