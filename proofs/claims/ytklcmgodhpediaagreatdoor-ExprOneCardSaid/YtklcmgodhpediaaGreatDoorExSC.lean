/- The laws, as the program walks them. -/
import Derived.Test.YtklcmgodhpediaaGreatDoorExSB
import Derived.Test.YtklcmgodhpediaaGreatDoorExL2
set_option linter.unusedSimpArgs false
set_option linter.unusedVariables false
set_option maxRecDepth 100000
namespace Go.Proofs.YtklcmgodhpediaaGreatDoor
open Go Go.Vm Go.Proofs

theorem bbE : ∀ b : Bool, (b == b) = true := fun b => by cases b <;> rfl
/-- The denial of an expression. -/
def notE (e : E) : E := .mk 4 0 0 0 0 true [e.strip]
theorem bsn (e : E) : buildSliceV cx 23 1 [(0, e.c)] = some (.sl .full [e.strip.c]) := by
  cases e; simp only [E.c, E.strip]; rfl
theorem bdn (w : V) : buildV cx 25 [(0, .int .i64 4), (5, .sl .full [w])] = some (.agg [.int .i64 4, .int .i64 0, .int .i64 0, .int .u64 0, .int .u64 0, .sl .full [w]]) := by rfl
theorem not_c (e : E) : (notE e).c = .agg [.int .i64 4, .int .i64 0, .int .i64 0, .int .u64 0, .int .u64 0, .sl .full [e.strip.c]] := by
  simp only [notE, E.c, E.cs]; rfl
theorem not_Ok {e : E} (h : e.Ok) : (notE e).Ok := .mk (by omega) (by omega) (by omega) (by omega) (by omega) (by simp) fun p hp => by
  obtain rfl : p = e.strip := by simpa using hp
  exact Ok_strip h
theorem node_not : nodeP 4 0 0 0 0 1 := by unfold nodeP; omega
theorem not_ok0 {e : E} (h : okE 1 e = true) : okE 0 (notE e) = true := okE_mk (by omega) node_not fun q hq => by
  obtain rfl : q = e.strip := by simpa using hq
  rw [ok_strip]; exact h
theorem not_ok1 {e : E} (h : okE 1 e = true) (hd : deepE (notE e) ≤ 64) : okE 1 (notE e) = true := ok_deep _ 0 1 (not_ok0 h) (by omega)
theorem not_neg (e : E) : negE (notE e) false = negE e true := by
  rw [notE, negE, if_pos rfl, firstN]; exact neg_strip e _
section
variable (Hh : Int → Bool) (R : Int → Int)
theorem hold_same {e : E} (h : okE 1 e = true) : holdsY Hh R e = holdsX Hh R e := by
  unfold holdsX holdsY; rw [holds_eq Hh R e 1 false h]
theorem hold_not {e : E} (h : okE 1 e = true) (hd : deepE (notE e) ≤ 64) : holdsX Hh R (notE e) = holdsX Hh R (negE e true) := by
  unfold holdsX
  rw [not_ok1 h hd, neg_ok e 1 true h, not_neg, neg_neg e 1 true false h]
  rfl
theorem hold_den {e : E} (h : okE 1 e = true) : holdsX Hh R (negE e true) = holdsR Hh R e true := by
  unfold holdsX
  rw [neg_ok e 1 true h, neg_neg e 1 true false h, ← holds_eq Hh R e 1 true h]
  rfl
theorem hold_is {e : E} (h : okE 1 e = true) : holdsX Hh R e = holdsR Hh R e false := by
  unfold holdsX
  rw [h, holds_eq Hh R e 1 false h]
  rfl
end
theorem den_den {e : E} (h : okE 1 e = true) : dnE (negE e true) = negE e false := by
  unfold dnE
  rw [neg_ok e 1 true h, if_pos rfl, neg_neg e 1 true true h]
  rfl
theorem dn_of {e : E} (h : okE 1 e = true) : dnE e = negE e true := by unfold dnE; rw [h]; rfl
theorem dnR_of {e : E} (h : okE 1 e = true) : dnR e = negE e true := by unfold dnR; rw [h]; rfl
theorem dn_no {e : E} (h : okE 1 e = false) : dnE e = copyE e := by unfold dnE; rw [h]; rfl
theorem dnR_no {e : E} (h : okE 1 e = false) : dnR e = e.strip := by unfold dnR; rw [h]; rfl
theorem chk_of {e : E} (h : okE 1 e = true) : chk e = 0 := by unfold chk; rw [h]; rfl
theorem chk_no {e : E} (h : okE 1 e = false) : chk e = 150 := by unfold chk; rw [h]; rfl
theorem X_no {Hh : Int → Bool} {R : Int → Int} {e : E} (h : okE 1 e = false) : holdsX Hh R e = false := by unfold holdsX; rw [h]; rfl
theorem Y_no {Hh : Int → Bool} {R : Int → Int} {e : E} (h : okE 1 e = false) : holdsY Hh R e = false := by unfold holdsY; rw [h]; rfl

set_option maxHeartbeats 16000000 in
theorem lawHolds {SC : List V} {Hh : Int → Bool} {R : Int → Int} (hS : StOk SC Hh R) (e : E) (hok : e.Ok) (st : St) : FnS cx 5 [e.c, .agg SC] st (.bool true) st := by
  have hld := hS.load
  have hlv := livesS
  have hde := DenyS e hok
  have hre := RDenyS e hok
  have hho := HoldsS hS e hok
  have hrh := RHoldsS hS e hok
  have hck := RCheckS e hok
  have hu := unown_c e
  have hp := E.pure e
  cases h : okE 1 e
  · rw [dn_no h] at hde
    rw [dnR_no h] at hre
    rw [chk_no h] at hck
    rw [X_no h] at hho
    rw [Y_no h] at hrh
    have hsm := sameS (copyE e) (copy_Ok e hok) e.strip (Ok_strip hok) (sim_copy_strip e)
    obtain ⟨x0, x1, x2, x3, x4, x5, hx⟩ := c_six (copyE e)
    rw [hx] at hde hsm
    obtain ⟨w0, w1, w2, w3, w4, w5, hw⟩ := c_six (e.strip)
    rw [hw] at hre hsm
    obtain ⟨y0, y1, y2, y3, y4, y5, hy⟩ := c_six (e)
    rw [hy] at hde hre hho hrh hck hu hp ⊢
    refine goP Tryz.func5 rfl rfl rfl rfl ?_ ?_
    · simp only [List.map_cons, List.map_nil, hu, hS.own]; show (pureV (.agg [y0, y1, y2, y3, y4, y5]) && (pureVs SC && true)) = true; rw [hp, hS.pure]; rfl
    intro t ht
    have a0 : tget t 0 = .agg [y0, y1, y2, y3, y4, y5] := ht 0 _ (by simp only [List.map_cons, hu]; rfl)
    have a1 : tget t 1 = .agg SC := ht 1 _ (by simp only [List.map_cons, hS.own]; rfl)
    clear ht
    have ex := And.intro @a0 (And.intro @a1 (And.intro @hpB (And.intro @hpE (And.intro @zvE (And.intro @neB @bbE)))))
    have exd := @hld
    repeat' (first
     | (with_reducible refine isO ?_); first
       | refine mvA (h := ?_)
       | refine asA (h := ?_)
       | refine quA (h := ?_)
       | refine wnA (h := ?_)
       | refine caA (hc := hde _) (h := ?_)
       | refine caA (hc := hck _) (h := ?_)
       | refine caA (hc := hho _) (h := ?_)
     | (with_reducible refine isP ?_); first
       | refine dqA (h := ?_)
       | refine dqAG (h := ?_)
       | refine dcA (i := 0) (l := []) (hc := hlv _) (h := ?_)
       | refine dcAG (i := 5) (l := [7, 6]) (hc := hho _) (h := ?_)
       | refine dcAG (i := 8) (l := []) (hc := hrh _) (h := ?_)
       | refine dcAG (i := 14) (l := [12]) (hc := hre _) (h := ?_)
       | refine dcAG (i := 15) (l := []) (hc := hsm _) (h := ?_)
       | refine dcA (i := 2) (l := [4, 3]) (hc := hho _) (h := ?_)
       | refine dcA (i := 5) (l := []) (hc := hho _) (h := ?_)
       | refine dcAG (i := 9) (l := [10]) (hc := hde _) (h := ?_)
       | refine dcAG (i := 12) (l := []) (hc := hsm _) (h := ?_)
       | refine dsA (h := ?_)
       | refine dtA (h := ?_)
       | refine dgA (h1 := fun _ => ?_) (h0 := fun _ => ?_)
     | (with_reducible refine isC ?_); first
       | refine ctA (h := ?_)
       | refine cfA (h := ?_)
       | refine cdA (h1 := fun _ => ?_) (h0 := fun _ => ?_)
       | refine cbA (h1 := fun _ => ?_) (h0 := fun _ => ?_)
     | (with_reducible refine isR ?_); first
       | refine Ev.drawn (by decide +kernel) (l := [0, 1, 2, 3, 4, 6, 7, 5, 8, 9, 10, 11, 12, 13, 14, 15, 16, 17]) (by decide +kernel) ?_
       | refine Ev.drawn (by decide +kernel) (l := [0, 1, 3, 4, 2, 5, 6, 7, 8, 10, 9, 11, 12, 13, 14]) (by decide +kernel) ?_
     | with_reducible refine Ev.seq ?_
     | with_reducible refine Ev.ops ?_
     | with_reducible refine NxE ?_
     | with_reducible refine BxN ?_
     | with_reducible refine BxX ?_
     | with_reducible refine NxX ?_
     | with_reducible refine NxR ?_
     | with_reducible refine BxR ?_
     | with_reducible refine NxG ?_
     | with_reducible refine BxG ?_
     | with_reducible refine GxR ?_
     | with_reducible refine GxN ?_
     | with_reducible refine GxX ?_
     | with_reducible refine Ev.goto ?_
     | with_reducible refine Ev.block ?_
     | with_reducible refine Ev.skip ?_
     | with_reducible refine Ev.exit ?_
     | with_reducible refine Ev.ret ?_
     | with_reducible refine Ev.label ?_
     | with_reducible refine EvOps.nil ?_
     | with_reducible refine EvPlan.nil ?_
     | (with_reducible refine BxO ?_ ?_; · decide)
     )
    all_goals refine lfA (rl := [.tmp 4]) rfl (hv := by
      simp only [packV, strip, stripAgg, stripCell, List.map_cons, List.map_nil]
      first | done | rfl) (hp := rfl)
  · rw [dn_of h] at hde
    rw [dnR_of h] at hre
    rw [chk_of h] at hck
    rw [hold_same Hh R h] at hrh
    have nok := neg_Ok e hok 1 true h
    have hsm := sameS (negE e true) nok (negE e true) nok (sim_refl _)
    have hdp := deepS (notE e) (not_Ok hok) 0 (by omega) (not_ok0 h)
    have hhn := HoldsS hS (notE e) (not_Ok hok)
    have hhd := HoldsS hS (negE e true) nok
    have hdd := DenyS (negE e true) nok
    rw [den_den h] at hdd
    have hpl := PlainS e hok h
    have nok2 := neg_Ok e hok 1 false h
    have hsm2 := sameS (negE e false) nok2 (negE e false) nok2 (sim_refl _)
    have hbs := bsn e
    have hbd := bdn e.strip.c
    have hnot := hold_not (e := e) Hh R h
    have hdge := deep_ok _ _ (not_ok0 h)
    have hd1 := deepE_ge (notE e)
    generalize deepE (notE e) = dq at hdp hnot hdge hd1
    rw [not_c] at hdp hhn
    generalize holdsX Hh R e = B1 at hho hrh
    generalize holdsX Hh R (negE e true) = B2 at hhd hnot
    generalize holdsX Hh R (notE e) = B3 at hhn hnot
    generalize e.strip.c = ys at hbs hbd hdp hhn
    obtain ⟨x0, x1, x2, x3, x4, x5, hx⟩ := c_six (negE e true)
    rw [hx] at hde hre hsm hhd hdd
    obtain ⟨q0, q1, q2, q3, q4, q5, hq⟩ := c_six (negE e false)
    rw [hq] at hdd hpl hsm2
    obtain ⟨y0, y1, y2, y3, y4, y5, hy⟩ := c_six (e)
    rw [hy] at hde hre hho hrh hck hu hp hbs hpl ⊢
    by_cases hd64 : dq ≤ 64
    · obtain rfl := hnot hd64
      refine goP Tryz.func5 rfl rfl rfl rfl ?_ ?_
      · simp only [List.map_cons, List.map_nil, hu, hS.own]; show (pureV (.agg [y0, y1, y2, y3, y4, y5]) && (pureVs SC && true)) = true; rw [hp, hS.pure]; rfl
      intro t ht
      have a0 : tget t 0 = .agg [y0, y1, y2, y3, y4, y5] := ht 0 _ (by simp only [List.map_cons, hu]; rfl)
      have a1 : tget t 1 = .agg SC := ht 1 _ (by simp only [List.map_cons, hS.own]; rfl)
      clear ht
      have ex := And.intro @a0 (And.intro @a1 (And.intro @hpB (And.intro @hpE (And.intro @zvE (And.intro @neB (And.intro @bbE (And.intro @hbs @hbd)))))))
      have exd := @hld
      repeat' (first
       | (with_reducible refine isO ?_); first
         | refine mvA (h := ?_)
         | refine asA (h := ?_)
         | refine quA (h := ?_)
         | refine wnA (h := ?_)
         | refine caA (hc := hde _) (h := ?_)
         | refine caA (hc := hdd _) (h := ?_)
         | refine caA (hc := hck _) (h := ?_)
         | refine caA (hc := hho _) (h := ?_)
         | refine caA (hc := hhd _) (h := ?_)
         | refine caA (hc := hhn _) (h := ?_)
         | refine caA (hc := hdp _) (h := ?_)
       | (with_reducible refine isP ?_); first
         | refine dqA (h := ?_)
         | refine dqAG (h := ?_)
         | refine dcA (i := 0) (l := []) (hc := hlv _) (h := ?_)
         | refine dcAG (i := 5) (l := [7, 6]) (hc := hho _) (h := ?_)
         | refine dcAG (i := 5) (l := [7, 6]) (hc := hhd _) (h := ?_)
         | refine dcAG (i := 5) (l := [7, 6]) (hc := hhn _) (h := ?_)
         | refine dcAG (i := 8) (l := []) (hc := hrh _) (h := ?_)
         | refine dcAG (i := 14) (l := [12]) (hc := hre _) (h := ?_)
         | refine dcAG (i := 15) (l := []) (hc := hsm _) (h := ?_)
         | refine dcAG (i := 15) (l := []) (hc := hsm2 _) (h := ?_)
         | refine dcA (i := 2) (l := [4, 3]) (hc := hho _) (h := ?_)
         | refine dcA (i := 2) (l := [4, 3]) (hc := hhd _) (h := ?_)
         | refine dcA (i := 2) (l := [4, 3]) (hc := hhn _) (h := ?_)
         | refine dcA (i := 5) (l := []) (hc := hho _) (h := ?_)
         | refine dcA (i := 5) (l := []) (hc := hhd _) (h := ?_)
         | refine dcA (i := 5) (l := []) (hc := hhn _) (h := ?_)
         | refine dcAG (i := 9) (l := [10]) (hc := hde _) (h := ?_)
         | refine dcAG (i := 9) (l := [10]) (hc := hdd _) (h := ?_)
         | refine dcAG (i := 11) (l := []) (hc := hpl _) (h := ?_)
         | refine dcAG (i := 12) (l := []) (hc := hsm _) (h := ?_)
         | refine dcAG (i := 12) (l := []) (hc := hsm2 _) (h := ?_)
         | refine dsA (h := ?_)
         | refine dtA (h := ?_)
         | refine dgA (h1 := fun _ => ?_) (h0 := fun _ => ?_)
       | (with_reducible refine isC ?_); first
         | refine ctA (h := ?_)
         | refine cfA (h := ?_)
         | refine cdA (h1 := fun _ => ?_) (h0 := fun _ => ?_)
         | refine cbA (h1 := fun _ => ?_) (h0 := fun _ => ?_)
       | (with_reducible refine isR ?_); first
         | refine Ev.drawn (by decide +kernel) (l := [0, 1, 2, 3, 4, 6, 7, 5, 8, 9, 10, 11, 12, 13, 14, 15, 16, 17]) (by decide +kernel) ?_
         | refine Ev.drawn (by decide +kernel) (l := [0, 1, 3, 4, 2, 5, 6, 7, 8, 10, 9, 11, 12, 13, 14]) (by decide +kernel) ?_
       | with_reducible refine Ev.seq ?_
       | with_reducible refine Ev.ops ?_
       | with_reducible refine NxE ?_
       | with_reducible refine BxN ?_
       | with_reducible refine BxX ?_
       | with_reducible refine NxX ?_
       | with_reducible refine NxR ?_
       | with_reducible refine BxR ?_
       | with_reducible refine NxG ?_
       | with_reducible refine BxG ?_
       | with_reducible refine GxR ?_
       | with_reducible refine GxN ?_
       | with_reducible refine GxX ?_
       | with_reducible refine Ev.goto ?_
       | with_reducible refine Ev.block ?_
       | with_reducible refine Ev.skip ?_
       | with_reducible refine Ev.exit ?_
       | with_reducible refine Ev.ret ?_
       | with_reducible refine Ev.label ?_
       | with_reducible refine EvOps.nil ?_
       | with_reducible refine EvPlan.nil ?_
       | (with_reducible refine BxO ?_ ?_; · decide)
       )
      all_goals refine lfA (rl := [.tmp 4]) rfl (hv := by
      simp only [packV, strip, stripAgg, stripCell, List.map_cons, List.map_nil]
      first | done | rfl) (hp := rfl)
    · skip
      refine goP Tryz.func5 rfl rfl rfl rfl ?_ ?_
      · simp only [List.map_cons, List.map_nil, hu, hS.own]; show (pureV (.agg [y0, y1, y2, y3, y4, y5]) && (pureVs SC && true)) = true; rw [hp, hS.pure]; rfl
      intro t ht
      have a0 : tget t 0 = .agg [y0, y1, y2, y3, y4, y5] := ht 0 _ (by simp only [List.map_cons, hu]; rfl)
      have a1 : tget t 1 = .agg SC := ht 1 _ (by simp only [List.map_cons, hS.own]; rfl)
      clear ht
      have ex := And.intro @a0 (And.intro @a1 (And.intro @hpB (And.intro @hpE (And.intro @zvE (And.intro @neB (And.intro @bbE (And.intro @hbs @hbd)))))))
      have exd := @hld
      repeat' (first
       | (with_reducible refine isO ?_); first
         | refine mvA (h := ?_)
         | refine asA (h := ?_)
         | refine quA (h := ?_)
         | refine wnA (h := ?_)
         | refine caA (hc := hde _) (h := ?_)
         | refine caA (hc := hck _) (h := ?_)
         | refine caA (hc := hho _) (h := ?_)
         | refine caA (hc := hdp _) (h := ?_)
       | (with_reducible refine isP ?_); first
         | refine dqA (h := ?_)
         | refine dqAG (h := ?_)
         | refine dcA (i := 0) (l := []) (hc := hlv _) (h := ?_)
         | refine dcAG (i := 5) (l := [7, 6]) (hc := hho _) (h := ?_)
         | refine dcAG (i := 8) (l := []) (hc := hrh _) (h := ?_)
         | refine dcAG (i := 14) (l := [12]) (hc := hre _) (h := ?_)
         | refine dcAG (i := 15) (l := []) (hc := hsm _) (h := ?_)
         | refine dcA (i := 2) (l := [4, 3]) (hc := hho _) (h := ?_)
         | refine dcA (i := 5) (l := []) (hc := hho _) (h := ?_)
         | refine dcAG (i := 9) (l := [10]) (hc := hde _) (h := ?_)
         | refine dcAG (i := 11) (l := []) (hc := hpl _) (h := ?_)
         | refine dcAG (i := 12) (l := []) (hc := hsm _) (h := ?_)
         | refine dsA (h := ?_)
         | refine dtA (h := ?_)
         | refine dgA (h1 := fun _ => ?_) (h0 := fun _ => ?_)
       | (with_reducible refine isC ?_); first
         | refine ctA (h := ?_)
         | refine cfA (h := ?_)
         | refine cdA (h1 := fun _ => ?_) (h0 := fun _ => ?_)
         | refine cbA (h1 := fun _ => ?_) (h0 := fun _ => ?_)
       | (with_reducible refine isR ?_); first
         | refine Ev.drawn (by decide +kernel) (l := [0, 1, 2, 3, 4, 6, 7, 5, 8, 9, 10, 11, 12, 13, 14, 15, 16, 17]) (by decide +kernel) ?_
         | refine Ev.drawn (by decide +kernel) (l := [0, 1, 3, 4, 2, 5, 6, 7, 8, 10, 9, 11, 12, 13, 14]) (by decide +kernel) ?_
       | with_reducible refine Ev.seq ?_
       | with_reducible refine Ev.ops ?_
       | with_reducible refine NxE ?_
       | with_reducible refine BxN ?_
       | with_reducible refine BxX ?_
       | with_reducible refine NxX ?_
       | with_reducible refine NxR ?_
       | with_reducible refine BxR ?_
       | with_reducible refine NxG ?_
       | with_reducible refine BxG ?_
       | with_reducible refine GxR ?_
       | with_reducible refine GxN ?_
       | with_reducible refine GxX ?_
       | with_reducible refine Ev.goto ?_
       | with_reducible refine Ev.block ?_
       | with_reducible refine Ev.skip ?_
       | with_reducible refine Ev.exit ?_
       | with_reducible refine Ev.ret ?_
       | with_reducible refine Ev.label ?_
       | with_reducible refine EvOps.nil ?_
       | with_reducible refine EvPlan.nil ?_
       | (with_reducible refine BxO ?_ ?_; · decide)
       )
      all_goals refine lfA (rl := [.tmp 4]) rfl (hv := by
      simp only [packV, strip, stripAgg, stripCell, List.map_cons, List.map_nil]
      first | done | rfl) (hp := rfl)

set_option maxHeartbeats 16000000 in
theorem lawOne {SC : List V} {Hh : Int → Bool} {R : Int → Int} (hS : StOk SC Hh R) (e : E) (hok : e.Ok) (st : St) : FnS cx 6 [e.c, .agg SC] st (.bool true) st := by
  have hld := hS.load
  have hlv := livesS
  have hde := DenyS e hok
  have hho := HoldsS hS e hok
  have hck := CheckS e hok
  have hu := unown_c e
  have hp := E.pure e
  cases h : okE 1 e
  · rw [dn_no h] at hde
    rw [chk_no h] at hck
    rw [X_no h] at hho
    have hsm := sameS (copyE e) (copy_Ok e hok) e hok (sim_copy e)
    obtain ⟨x0, x1, x2, x3, x4, x5, hx⟩ := c_six (copyE e)
    rw [hx] at hde hsm
    obtain ⟨y0, y1, y2, y3, y4, y5, hy⟩ := c_six (e)
    rw [hy] at hde hho hck hu hp hsm ⊢
    refine goP Tryz.func6 rfl rfl rfl rfl ?_ ?_
    · simp only [List.map_cons, List.map_nil, hu, hS.own]; show (pureV (.agg [y0, y1, y2, y3, y4, y5]) && (pureVs SC && true)) = true; rw [hp, hS.pure]; rfl
    intro t ht
    have a0 : tget t 0 = .agg [y0, y1, y2, y3, y4, y5] := ht 0 _ (by simp only [List.map_cons, hu]; rfl)
    have a1 : tget t 1 = .agg SC := ht 1 _ (by simp only [List.map_cons, hS.own]; rfl)
    clear ht
    have ex := And.intro @a0 (And.intro @a1 (And.intro @hpB (And.intro @hpE (And.intro @zvE (And.intro @neB @bbE)))))
    have exd := @hld
    repeat' (first
     | (with_reducible refine isO ?_); first
       | refine mvA (h := ?_)
       | refine asA (h := ?_)
       | refine quA (h := ?_)
       | refine caA (hc := hlv _) (h := ?_)
       | refine caA (hc := hck _) (h := ?_)
     | (with_reducible refine isG ?_); first
       | refine stA (h := ?_)
       | refine srA (h := ?_)
       | refine swA (h := ?_)
       | refine s1A (h := ?_)
       | refine s0A (h := ?_)
       | refine sgA (h1 := fun _ => ?_) (h0 := fun _ => ?_)
       | refine sbA (h1 := fun _ => ?_) (h0 := fun _ => ?_)
     | (with_reducible refine isP ?_); first
       | refine dqA (h := ?_)
       | refine dqAG (h := ?_)
       | refine dcA (i := 2) (l := []) (hc := hho _) (h := ?_)
       | refine dcAG (i := 6) (l := [7]) (hc := hde _) (h := ?_)
       | refine dcAG (i := 8) (l := []) (hc := hsm _) (h := ?_)
       | refine dcA (i := 2) (l := [5, 3]) (hc := hho _) (h := ?_)
       | refine dcA (i := 4) (l := [5]) (hc := hde _) (h := ?_)
       | refine dcA (i := 6) (l := []) (hc := hho _) (h := ?_)
       | refine dsA (h := ?_)
       | refine dtA (h := ?_)
       | refine dgA (h1 := fun _ => ?_) (h0 := fun _ => ?_)
     | (with_reducible refine isC ?_); first
       | refine ctA (h := ?_)
       | refine cfA (h := ?_)
       | refine cdA (h1 := fun _ => ?_) (h0 := fun _ => ?_)
       | refine cbA (h1 := fun _ => ?_) (h0 := fun _ => ?_)
     | (with_reducible refine isR ?_); first
       | refine Ev.drawn (by decide +kernel) (l := [0, 1, 2, 3, 4, 5, 7, 6, 8, 9, 10]) (by decide +kernel) ?_
       | refine Ev.drawn (by decide +kernel) (l := [0, 1, 3, 5, 2, 4, 6, 7, 8]) (by decide +kernel) ?_
     | with_reducible refine Ev.seq ?_
     | with_reducible refine Ev.ops ?_
     | with_reducible refine NxE ?_
     | with_reducible refine BxN ?_
     | with_reducible refine BxX ?_
     | with_reducible refine NxX ?_
     | with_reducible refine NxR ?_
     | with_reducible refine BxR ?_
     | with_reducible refine NxG ?_
     | with_reducible refine BxG ?_
     | with_reducible refine GxR ?_
     | with_reducible refine GxN ?_
     | with_reducible refine GxX ?_
     | with_reducible refine Ev.goto ?_
     | with_reducible refine Ev.block ?_
     | with_reducible refine Ev.skip ?_
     | with_reducible refine Ev.exit ?_
     | with_reducible refine Ev.ret ?_
     | with_reducible refine Ev.label ?_
     | with_reducible refine EvOps.nil ?_
     | with_reducible refine EvPlan.nil ?_
     | (with_reducible refine BxO ?_ ?_; · decide)
     )
    all_goals refine lfA (rl := [.tmp 4]) rfl (hv := by
      simp only [packV, strip, stripAgg, stripCell, List.map_cons, List.map_nil]
      first | done | rfl) (hp := rfl)
  · rw [dn_of h] at hde
    rw [chk_of h] at hck
    have nok := neg_Ok e hok 1 true h
    have hhd := HoldsS hS (negE e true) nok
    have hhs := hasFS hS e hok 1 h
    obtain ⟨one1, one2⟩ := one_of Hh R e 1 h
    rw [hold_is Hh R h] at hho
    rw [hold_den Hh R h] at hhd
    generalize holdsR Hh R e false = B1 at hho one1 one2
    generalize holdsR Hh R e true = B2 at hhd one1 one2
    generalize hasE Hh e = B3 at hhs one2
    obtain ⟨x0, x1, x2, x3, x4, x5, hx⟩ := c_six (negE e true)
    rw [hx] at hde hhd
    obtain ⟨y0, y1, y2, y3, y4, y5, hy⟩ := c_six (e)
    rw [hy] at hde hho hck hu hp hhs ⊢
    have hcase : (B1 = true ∧ B2 = false) ∨ (B1 = false ∧ B2 = true) ∨ (B1 = false ∧ B2 = false ∧ B3 = false) := by
      cases B1 <;> cases B2 <;> cases B3 <;> simp_all
    rcases hcase with ⟨rfl, rfl⟩ | ⟨rfl, rfl⟩ | ⟨rfl, rfl, rfl⟩
    all_goals
      refine goP Tryz.func6 rfl rfl rfl rfl ?_ ?_
      · simp only [List.map_cons, List.map_nil, hu, hS.own]; show (pureV (.agg [y0, y1, y2, y3, y4, y5]) && (pureVs SC && true)) = true; rw [hp, hS.pure]; rfl
      intro t ht
      have a0 : tget t 0 = .agg [y0, y1, y2, y3, y4, y5] := ht 0 _ (by simp only [List.map_cons, hu]; rfl)
      have a1 : tget t 1 = .agg SC := ht 1 _ (by simp only [List.map_cons, hS.own]; rfl)
      clear ht
      have ex := And.intro @a0 (And.intro @a1 (And.intro @hpB (And.intro @hpE (And.intro @zvE (And.intro @neB @bbE)))))
      have exd := @hld
      repeat' (first
       | (with_reducible refine isO ?_); first
         | refine mvA (h := ?_)
         | refine asA (h := ?_)
         | refine quA (h := ?_)
         | refine caA (hc := hlv _) (h := ?_)
         | refine caA (hc := hck _) (h := ?_)
         | refine caA (hc := hhs _) (h := ?_)
       | (with_reducible refine isG ?_); first
         | refine stA (h := ?_)
         | refine srA (h := ?_)
         | refine swA (h := ?_)
         | refine s1A (h := ?_)
         | refine s0A (h := ?_)
         | refine sgA (h1 := fun _ => ?_) (h0 := fun _ => ?_)
         | refine sbA (h1 := fun _ => ?_) (h0 := fun _ => ?_)
       | (with_reducible refine isP ?_); first
         | refine dqA (h := ?_)
         | refine dqAG (h := ?_)
         | refine dcA (i := 2) (l := []) (hc := hho _) (h := ?_)
         | refine dcA (i := 2) (l := []) (hc := hhd _) (h := ?_)
         | refine dcAG (i := 6) (l := [7]) (hc := hde _) (h := ?_)
         | refine dcA (i := 2) (l := [5, 3]) (hc := hho _) (h := ?_)
         | refine dcA (i := 2) (l := [5, 3]) (hc := hhd _) (h := ?_)
         | refine dcA (i := 4) (l := [5]) (hc := hde _) (h := ?_)
         | refine dcA (i := 6) (l := []) (hc := hho _) (h := ?_)
         | refine dcA (i := 6) (l := []) (hc := hhd _) (h := ?_)
         | refine dsA (h := ?_)
         | refine dtA (h := ?_)
         | refine dgA (h1 := fun _ => ?_) (h0 := fun _ => ?_)
       | (with_reducible refine isC ?_); first
         | refine ctA (h := ?_)
         | refine cfA (h := ?_)
         | refine cdA (h1 := fun _ => ?_) (h0 := fun _ => ?_)
         | refine cbA (h1 := fun _ => ?_) (h0 := fun _ => ?_)
       | (with_reducible refine isR ?_); first
         | refine Ev.drawn (by decide +kernel) (l := [0, 1, 2, 3, 4, 5, 7, 6, 8, 9, 10]) (by decide +kernel) ?_
         | refine Ev.drawn (by decide +kernel) (l := [0, 1, 3, 5, 2, 4, 6, 7, 8]) (by decide +kernel) ?_
       | with_reducible refine Ev.seq ?_
       | with_reducible refine Ev.ops ?_
       | with_reducible refine NxE ?_
       | with_reducible refine BxN ?_
       | with_reducible refine BxX ?_
       | with_reducible refine NxX ?_
       | with_reducible refine NxR ?_
       | with_reducible refine BxR ?_
       | with_reducible refine NxG ?_
       | with_reducible refine BxG ?_
       | with_reducible refine GxR ?_
       | with_reducible refine GxN ?_
       | with_reducible refine GxX ?_
       | with_reducible refine Ev.goto ?_
       | with_reducible refine Ev.block ?_
       | with_reducible refine Ev.skip ?_
       | with_reducible refine Ev.exit ?_
       | with_reducible refine Ev.ret ?_
       | with_reducible refine Ev.label ?_
       | with_reducible refine EvOps.nil ?_
       | with_reducible refine EvPlan.nil ?_
       | (with_reducible refine BxO ?_ ?_; · decide)
       )
      all_goals refine lfA (rl := [.tmp 4]) rfl (hv := by
            simp only [packV, strip, stripAgg, stripCell, List.map_cons, List.map_nil]
            first | done | rfl) (hp := rfl)
end Go.Proofs.YtklcmgodhpediaaGreatDoor
