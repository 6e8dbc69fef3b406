/- The exported functions. -/
import Derived.Test.YtklcmgodhpediaaGreatDoorExF1
set_option linter.unusedSimpArgs false
set_option linter.unusedVariables false
set_option maxRecDepth 100000
namespace Go.Proofs.YtklcmgodhpediaaGreatDoor
open Go Go.Vm Go.Proofs

theorem strip_c2 (e : E) : stripAgg e.c = e.strip.c := by cases e; rfl
def chk (e : E) : Int := if okE 1 e then 0 else 150
def dnE (e : E) : E := if okE 1 e then negE e true else copyE e
def dnR (e : E) : E := if okE 1 e then negE e true else e.strip
theorem dn_z (e : E) : (dnE e).z = false := by unfold dnE; split; exact neg_z _ _; exact copy_z _
theorem dnR_z (e : E) : (dnR e).z = false := by unfold dnR; split; exact neg_z _ _; exact strip_z _
def holdsX (Hh : Int → Bool) (R : Int → Int) (e : E) : Bool := okE 1 e && holdsN Hh R (negE e false)
def holdsY (Hh : Int → Bool) (R : Int → Int) (e : E) : Bool := okE 1 e && holdsR Hh R e false

theorem CheckS (e : E) (hok : e.Ok) (st : St) : FnS cx 10 [e.c] st (.int .i64 (chk e)) st := by
  have hr := rightS e hok 1 (by omega) (by omega)
  have hu := unown_c e
  have hp := E.pure e
  obtain ⟨y0, y1, y2, y3, y4, y5, hy⟩ := c_six e
  rw [hy] at hr hu hp ⊢
  unfold chk
  cases h : okE 1 e <;> rw [h] at hr
  all_goals
    refine goP Tryz.func10 rfl rfl rfl rfl ?_ ?_
    · simp only [List.map_cons, List.map_nil, hu, pureVs, hp, Bool.and_self]
    intro t ht
    have a0 : tget t 0 = .agg [y0, y1, y2, y3, y4, y5] := ht 0 _ (by simp only [List.map_cons, hu]; rfl)
    clear ht
    have ex := And.intro @a0 (And.intro @hpB (And.intro @hpE @zvE))
    repeat' (first
     | (with_reducible refine isO ?_); first
       | refine mvA (h := ?_)
       | refine asA (h := ?_)
       | refine quA (h := ?_)
       | refine caA (hc := hr _) (h := ?_)
     | (with_reducible refine isC ?_); first
       | refine ctA (h := ?_)
       | refine cfA (h := ?_)
       | refine cdA (h1 := fun _ => ?_) (h0 := fun _ => ?_)
       | refine cbA (h1 := fun _ => ?_) (h0 := fun _ => ?_)
     | with_reducible refine Ev.seq ?_
     | with_reducible refine Ev.ops ?_
     | with_reducible refine NxE ?_
     | with_reducible refine BxN ?_
     | with_reducible refine BxX ?_
     | with_reducible refine NxX ?_
     | with_reducible refine NxR ?_
     | with_reducible refine BxR ?_
     | with_reducible refine NxG ?_
     | with_reducible refine BxG ?_
     | with_reducible refine GxR ?_
     | with_reducible refine GxN ?_
     | with_reducible refine GxX ?_
     | with_reducible refine Ev.goto ?_
     | with_reducible refine Ev.block ?_
     | with_reducible refine Ev.skip ?_
     | with_reducible refine Ev.exit ?_
     | with_reducible refine Ev.ret ?_
     | with_reducible refine Ev.label ?_
     | with_reducible refine EvOps.nil ?_
     | with_reducible refine EvPlan.nil ?_
     | (with_reducible refine BxO ?_ ?_; · decide)
     )
    refine lfA (rl := [.tmp 2]) rfl (hv := by
      simp only [packV, strip, stripAgg, stripCell, List.map_cons, List.map_nil]
      rfl) (hp := rfl)

theorem RCheckS (e : E) (hok : e.Ok) (st : St) : FnS cx 11 [e.c] st (.int .i64 (chk e)) st := by
  have hr := checkS e hok 1 (by omega) (by omega)
  have hu := unown_c e
  have hp := E.pure e
  obtain ⟨y0, y1, y2, y3, y4, y5, hy⟩ := c_six e
  rw [hy] at hr hu hp ⊢
  unfold chk
  cases h : okE 1 e <;> rw [h] at hr
  all_goals
    refine goP Tryz.func11 rfl rfl rfl rfl ?_ ?_
    · simp only [List.map_cons, List.map_nil, hu, pureVs, hp, Bool.and_self]
    intro t ht
    have a0 : tget t 0 = .agg [y0, y1, y2, y3, y4, y5] := ht 0 _ (by simp only [List.map_cons, hu]; rfl)
    clear ht
    have ex := And.intro @a0 (And.intro @hpB (And.intro @hpE @zvE))
    repeat' (first
     | (with_reducible refine isO ?_); first
       | refine mvA (h := ?_)
       | refine asA (h := ?_)
       | refine quA (h := ?_)
       | refine caA (hc := hr _) (h := ?_)
     | (with_reducible refine isC ?_); first
       | refine ctA (h := ?_)
       | refine cfA (h := ?_)
       | refine cdA (h1 := fun _ => ?_) (h0 := fun _ => ?_)
       | refine cbA (h1 := fun _ => ?_) (h0 := fun _ => ?_)
     | with_reducible refine Ev.seq ?_
     | with_reducible refine Ev.ops ?_
     | with_reducible refine NxE ?_
     | with_reducible refine BxN ?_
     | with_reducible refine BxX ?_
     | with_reducible refine NxX ?_
     | with_reducible refine NxR ?_
     | with_reducible refine BxR ?_
     | with_reducible refine NxG ?_
     | with_reducible refine BxG ?_
     | with_reducible refine GxR ?_
     | with_reducible refine GxN ?_
     | with_reducible refine GxX ?_
     | with_reducible refine Ev.goto ?_
     | with_reducible refine Ev.block ?_
     | with_reducible refine Ev.skip ?_
     | with_reducible refine Ev.exit ?_
     | with_reducible refine Ev.ret ?_
     | with_reducible refine Ev.label ?_
     | with_reducible refine EvOps.nil ?_
     | with_reducible refine EvPlan.nil ?_
     | (with_reducible refine BxO ?_ ?_; · decide)
     )
    refine lfA (rl := [.tmp 2]) rfl (hv := by
      simp only [packV, strip, stripAgg, stripCell, List.map_cons, List.map_nil]
      rfl) (hp := rfl)

set_option maxHeartbeats 8000000 in
theorem HoldsS {SC : List V} {Hh : Int → Bool} {R : Int → Int} (hS : StOk SC Hh R) (e : E) (hok : e.Ok) (st : St) : FnS cx 14 [e.c, .agg SC] st (.bool (holdsX Hh R e)) st := by
  have hld := hS.load
  have hc := CheckS e hok
  cases h : okE 1 e
  · unfold chk at hc
    rw [h] at hc
    have hu := unown_c e
    have hp := E.pure e
    obtain ⟨y0, y1, y2, y3, y4, y5, hy⟩ := c_six e
    rw [hy] at hc hu hp ⊢
    refine goP Tryz.func14 rfl rfl rfl rfl ?_ ?_
    · simp only [List.map_cons, List.map_nil, hu, hS.own]; show (pureV (.agg [y0, y1, y2, y3, y4, y5]) && (pureVs SC && true)) = true; rw [hp, hS.pure]; rfl
    intro t ht
    have a0 : tget t 0 = .agg [y0, y1, y2, y3, y4, y5] := ht 0 _ (by simp only [List.map_cons, hu]; rfl)
    have a1 : tget t 1 = .agg SC := ht 1 _ (by simp only [List.map_cons, hS.own]; rfl)
    clear ht
    have ex := And.intro @a0 (And.intro @a1 (And.intro @hpB (And.intro @hpE @zvE)))
    have exd := @hld
    repeat' (first
     | (with_reducible refine isO ?_); first
       | refine mvA (h := ?_)
       | refine asA (h := ?_)
       | refine quA (h := ?_)
     | (with_reducible refine isP ?_); first
       | refine dqA (h := ?_)
       | refine dqAG (h := ?_)
       | refine dcA (i := 1) (l := []) (hc := hc _) (h := ?_)
       | refine dsA (h := ?_)
       | refine dtA (h := ?_)
       | refine dgA (h1 := fun _ => ?_) (h0 := fun _ => ?_)
     | (with_reducible refine isC ?_); first
       | refine ctA (h := ?_)
       | refine cfA (h := ?_)
       | refine cdA (h1 := fun _ => ?_) (h0 := fun _ => ?_)
       | refine cbA (h1 := fun _ => ?_) (h0 := fun _ => ?_)
     | (with_reducible refine isR ?_); first
       | refine Ev.drawn (by decide +kernel) (l := [0, 1, 2, 3, 4, 6, 5, 7, 8, 9]) (by decide +kernel) ?_
     | with_reducible refine Ev.seq ?_
     | with_reducible refine Ev.ops ?_
     | with_reducible refine NxE ?_
     | with_reducible refine BxN ?_
     | with_reducible refine BxX ?_
     | with_reducible refine NxX ?_
     | with_reducible refine NxR ?_
     | with_reducible refine BxR ?_
     | with_reducible refine NxG ?_
     | with_reducible refine BxG ?_
     | with_reducible refine GxR ?_
     | with_reducible refine GxN ?_
     | with_reducible refine GxX ?_
     | with_reducible refine Ev.goto ?_
     | with_reducible refine Ev.block ?_
     | with_reducible refine Ev.skip ?_
     | with_reducible refine Ev.exit ?_
     | with_reducible refine Ev.ret ?_
     | with_reducible refine Ev.label ?_
     | with_reducible refine EvOps.nil ?_
     | with_reducible refine EvPlan.nil ?_
     | (with_reducible refine BxO ?_ ?_; · decide)
     )
    all_goals refine lfA (rl := [.tmp 4]) rfl (hv := by
      simp only [packV, strip, stripAgg, stripCell, List.map_cons, List.map_nil]
      unfold holdsX; rw [h]; rfl) (hp := rfl)
  · unfold chk at hc
    rw [h] at hc
    have hpl := plainS e hok 1 h false
    have hho := holdsS hS (negE e false) (neg_Ok e hok 1 false h) 1 (neg_ok e 1 false h)
    obtain ⟨x0, x1, x2, x3, x4, x5, hx⟩ := c_six (negE e false)
    rw [hx] at hpl hho
    have hu := unown_c e
    have hp := E.pure e
    obtain ⟨y0, y1, y2, y3, y4, y5, hy⟩ := c_six e
    rw [hy] at hc hu hp hpl ⊢
    refine goP Tryz.func14 rfl rfl rfl rfl ?_ ?_
    · simp only [List.map_cons, List.map_nil, hu, hS.own]; show (pureV (.agg [y0, y1, y2, y3, y4, y5]) && (pureVs SC && true)) = true; rw [hp, hS.pure]; rfl
    intro t ht
    have a0 : tget t 0 = .agg [y0, y1, y2, y3, y4, y5] := ht 0 _ (by simp only [List.map_cons, hu]; rfl)
    have a1 : tget t 1 = .agg SC := ht 1 _ (by simp only [List.map_cons, hS.own]; rfl)
    clear ht
    have ex := And.intro @a0 (And.intro @a1 (And.intro @hpB (And.intro @hpE @zvE)))
    have exd := @hld
    repeat' (first
     | (with_reducible refine isO ?_); first
       | refine mvA (h := ?_)
       | refine asA (h := ?_)
       | refine quA (h := ?_)
     | (with_reducible refine isP ?_); first
       | refine dqA (h := ?_)
       | refine dqAG (h := ?_)
       | refine dcA (i := 1) (l := []) (hc := hc _) (h := ?_)
       | refine dcAG (i := 5) (l := [6]) (hc := hpl _) (h := ?_)
       | refine dcAG (i := 7) (l := []) (hc := hho _) (h := ?_)
       | refine dsA (h := ?_)
       | refine dtA (h := ?_)
       | refine dgA (h1 := fun _ => ?_) (h0 := fun _ => ?_)
     | (with_reducible refine isC ?_); first
       | refine ctA (h := ?_)
       | refine cfA (h := ?_)
       | refine cdA (h1 := fun _ => ?_) (h0 := fun _ => ?_)
       | refine cbA (h1 := fun _ => ?_) (h0 := fun _ => ?_)
     | (with_reducible refine isR ?_); first
       | refine Ev.drawn (by decide +kernel) (l := [0, 1, 2, 3, 4, 6, 5, 7, 8, 9]) (by decide +kernel) ?_
     | with_reducible refine Ev.seq ?_
     | with_reducible refine Ev.ops ?_
     | with_reducible refine NxE ?_
     | with_reducible refine BxN ?_
     | with_reducible refine BxX ?_
     | with_reducible refine NxX ?_
     | with_reducible refine NxR ?_
     | with_reducible refine BxR ?_
     | with_reducible refine NxG ?_
     | with_reducible refine BxG ?_
     | with_reducible refine GxR ?_
     | with_reducible refine GxN ?_
     | with_reducible refine GxX ?_
     | with_reducible refine Ev.goto ?_
     | with_reducible refine Ev.block ?_
     | with_reducible refine Ev.skip ?_
     | with_reducible refine Ev.exit ?_
     | with_reducible refine Ev.ret ?_
     | with_reducible refine Ev.label ?_
     | with_reducible refine EvOps.nil ?_
     | with_reducible refine EvPlan.nil ?_
     | (with_reducible refine BxO ?_ ?_; · decide)
     )
    all_goals refine lfA (rl := [.tmp 4]) rfl (hv := by
      simp only [packV, strip, stripAgg, stripCell, List.map_cons, List.map_nil]
      unfold holdsX; rw [h]; rfl) (hp := rfl)

set_option maxHeartbeats 8000000 in
theorem RHoldsS {SC : List V} {Hh : Int → Bool} {R : Int → Int} (hS : StOk SC Hh R) (e : E) (hok : e.Ok) (st : St) : FnS cx 17 [e.c, .agg SC] st (.bool (holdsY Hh R e)) st := by
  have hld := hS.load
  have hc := RCheckS e hok
  cases h : okE 1 e
  · unfold chk at hc
    rw [h] at hc
    have hu := unown_c e
    have hp := E.pure e
    obtain ⟨y0, y1, y2, y3, y4, y5, hy⟩ := c_six e
    rw [hy] at hc hu hp ⊢
    refine goP Tryz.func17 rfl rfl rfl rfl ?_ ?_
    · simp only [List.map_cons, List.map_nil, hu, hS.own]; show (pureV (.agg [y0, y1, y2, y3, y4, y5]) && (pureVs SC && true)) = true; rw [hp, hS.pure]; rfl
    intro t ht
    have a0 : tget t 0 = .agg [y0, y1, y2, y3, y4, y5] := ht 0 _ (by simp only [List.map_cons, hu]; rfl)
    have a1 : tget t 1 = .agg SC := ht 1 _ (by simp only [List.map_cons, hS.own]; rfl)
    clear ht
    have ex := And.intro @a0 (And.intro @a1 (And.intro @hpB (And.intro @hpE @zvE)))
    have exd := @hld
    repeat' (first
     | (with_reducible refine isO ?_); first
       | refine mvA (h := ?_)
       | refine asA (h := ?_)
       | refine quA (h := ?_)
       | refine caA (hc := hc _) (h := ?_)
     | (with_reducible refine isG ?_); first
       | refine stA (h := ?_)
       | refine srA (h := ?_)
       | refine swA (h := ?_)
       | refine s1A (h := ?_)
       | refine s0A (h := ?_)
       | refine sgA (h1 := fun _ => ?_) (h0 := fun _ => ?_)
       | refine sbA (h1 := fun _ => ?_) (h0 := fun _ => ?_)
     | (with_reducible refine isC ?_); first
       | refine ctA (h := ?_)
       | refine cfA (h := ?_)
       | refine cdA (h1 := fun _ => ?_) (h0 := fun _ => ?_)
       | refine cbA (h1 := fun _ => ?_) (h0 := fun _ => ?_)
     | with_reducible refine Ev.seq ?_
     | with_reducible refine Ev.ops ?_
     | with_reducible refine NxE ?_
     | with_reducible refine BxN ?_
     | with_reducible refine BxX ?_
     | with_reducible refine NxX ?_
     | with_reducible refine NxR ?_
     | with_reducible refine BxR ?_
     | with_reducible refine NxG ?_
     | with_reducible refine BxG ?_
     | with_reducible refine GxR ?_
     | with_reducible refine GxN ?_
     | with_reducible refine GxX ?_
     | with_reducible refine Ev.goto ?_
     | with_reducible refine Ev.block ?_
     | with_reducible refine Ev.skip ?_
     | with_reducible refine Ev.exit ?_
     | with_reducible refine Ev.ret ?_
     | with_reducible refine Ev.label ?_
     | with_reducible refine EvOps.nil ?_
     | with_reducible refine EvPlan.nil ?_
     | (with_reducible refine BxO ?_ ?_; · decide)
     )
    all_goals refine lfA (rl := [.tmp 4]) rfl (hv := by
      simp only [packV, strip, stripAgg, stripCell, List.map_cons, List.map_nil]
      unfold holdsY; rw [h]; rfl) (hp := rfl)
  · unfold chk at hc
    rw [h] at hc
    have hho := holdsRS hS e hok 1 h false
    have hu := unown_c e
    have hp := E.pure e
    obtain ⟨y0, y1, y2, y3, y4, y5, hy⟩ := c_six e
    rw [hy] at hc hu hp hho ⊢
    refine goP Tryz.func17 rfl rfl rfl rfl ?_ ?_
    · simp only [List.map_cons, List.map_nil, hu, hS.own]; show (pureV (.agg [y0, y1, y2, y3, y4, y5]) && (pureVs SC && true)) = true; rw [hp, hS.pure]; rfl
    intro t ht
    have a0 : tget t 0 = .agg [y0, y1, y2, y3, y4, y5] := ht 0 _ (by simp only [List.map_cons, hu]; rfl)
    have a1 : tget t 1 = .agg SC := ht 1 _ (by simp only [List.map_cons, hS.own]; rfl)
    clear ht
    have ex := And.intro @a0 (And.intro @a1 (And.intro @hpB (And.intro @hpE @zvE)))
    have exd := @hld
    repeat' (first
     | (with_reducible refine isO ?_); first
       | refine mvA (h := ?_)
       | refine asA (h := ?_)
       | refine quA (h := ?_)
       | refine caA (hc := hc _) (h := ?_)
       | refine caA (hc := hho _) (h := ?_)
     | (with_reducible refine isG ?_); first
       | refine stA (h := ?_)
       | refine srA (h := ?_)
       | refine swA (h := ?_)
       | refine s1A (h := ?_)
       | refine s0A (h := ?_)
       | refine sgA (h1 := fun _ => ?_) (h0 := fun _ => ?_)
       | refine sbA (h1 := fun _ => ?_) (h0 := fun _ => ?_)
     | (with_reducible refine isC ?_); first
       | refine ctA (h := ?_)
       | refine cfA (h := ?_)
       | refine cdA (h1 := fun _ => ?_) (h0 := fun _ => ?_)
       | refine cbA (h1 := fun _ => ?_) (h0 := fun _ => ?_)
     | with_reducible refine Ev.seq ?_
     | with_reducible refine Ev.ops ?_
     | with_reducible refine NxE ?_
     | with_reducible refine BxN ?_
     | with_reducible refine BxX ?_
     | with_reducible refine NxX ?_
     | with_reducible refine NxR ?_
     | with_reducible refine BxR ?_
     | with_reducible refine NxG ?_
     | with_reducible refine BxG ?_
     | with_reducible refine GxR ?_
     | with_reducible refine GxN ?_
     | with_reducible refine GxX ?_
     | with_reducible refine Ev.goto ?_
     | with_reducible refine Ev.block ?_
     | with_reducible refine Ev.skip ?_
     | with_reducible refine Ev.exit ?_
     | with_reducible refine Ev.ret ?_
     | with_reducible refine Ev.label ?_
     | with_reducible refine EvOps.nil ?_
     | with_reducible refine EvPlan.nil ?_
     | (with_reducible refine BxO ?_ ?_; · decide)
     )
    all_goals refine lfA (rl := [.tmp 4]) rfl (hv := by
      simp only [packV, strip, stripAgg, stripCell, List.map_cons, List.map_nil]
      unfold holdsY; rw [h]; rfl) (hp := rfl)

set_option maxHeartbeats 8000000 in
theorem DenyS (e : E) (hok : e.Ok) (st : St) : FnS cx 16 [e.c] st (dnE e).c st := by
  have hc := CheckS e hok
  have hsy := strip_c (dn_z e)
  have hpy := E.pure (dnE e)
  cases h : okE 1 e
  · unfold chk at hc
    rw [h] at hc
    have hcp := copiedS e hok
    rw [show dnE e = copyE e by unfold dnE; rw [h]; rfl] at hsy hpy ⊢
    obtain ⟨x0, x1, x2, x3, x4, x5, hx⟩ := c_six (copyE e)
    rw [hx] at hcp hsy hpy ⊢
    have hu := unown_c e
    have hp := E.pure e
    obtain ⟨y0, y1, y2, y3, y4, y5, hy⟩ := c_six e
    rw [hy] at hc hu hp hcp
    rw [hy]
    refine goP Tryz.func16 rfl rfl rfl rfl ?_ ?_
    · simp only [List.map_cons, List.map_nil, hu, pureVs, hp, Bool.and_self]
    intro t ht
    have a0 : tget t 0 = .agg [y0, y1, y2, y3, y4, y5] := ht 0 _ (by simp only [List.map_cons, hu]; rfl)
    clear ht
    have ex := And.intro @a0 (And.intro @hpB (And.intro @hpE @zvE))
    repeat' (first
     | (with_reducible refine isO ?_); first
       | refine mvA (h := ?_)
       | refine asA (h := ?_)
       | refine quA (h := ?_)
       | refine wnA (h := ?_)
       | refine caA (hc := hc _) (h := ?_)
       | refine caA (hc := hcp _) (h := ?_)
     | (with_reducible refine isC ?_); first
       | refine ctA (h := ?_)
       | refine cfA (h := ?_)
       | refine cdA (h1 := fun _ => ?_) (h0 := fun _ => ?_)
       | refine cbA (h1 := fun _ => ?_) (h0 := fun _ => ?_)
     | with_reducible refine Ev.seq ?_
     | with_reducible refine Ev.ops ?_
     | with_reducible refine NxE ?_
     | with_reducible refine BxN ?_
     | with_reducible refine BxX ?_
     | with_reducible refine NxX ?_
     | with_reducible refine NxR ?_
     | with_reducible refine BxR ?_
     | with_reducible refine NxG ?_
     | with_reducible refine BxG ?_
     | with_reducible refine GxR ?_
     | with_reducible refine GxN ?_
     | with_reducible refine GxX ?_
     | with_reducible refine Ev.goto ?_
     | with_reducible refine Ev.block ?_
     | with_reducible refine Ev.skip ?_
     | with_reducible refine Ev.exit ?_
     | with_reducible refine Ev.ret ?_
     | with_reducible refine Ev.label ?_
     | with_reducible refine EvOps.nil ?_
     | with_reducible refine EvPlan.nil ?_
     | (with_reducible refine BxO ?_ ?_; · decide)
     )
    all_goals refine lfA (rl := [.cell 2 25]) rfl (hv := by
      simp only [packV, strip, stripAgg, stripCell, List.map_cons, List.map_nil]
      exact hsy) (hp := hpy)
  · unfold chk at hc
    rw [h] at hc
    have hcp := plainS e hok 1 h true
    rw [show dnE e = negE e true by unfold dnE; rw [h]; rfl] at hsy hpy ⊢
    obtain ⟨x0, x1, x2, x3, x4, x5, hx⟩ := c_six (negE e true)
    rw [hx] at hcp hsy hpy ⊢
    have hu := unown_c e
    have hp := E.pure e
    obtain ⟨y0, y1, y2, y3, y4, y5, hy⟩ := c_six e
    rw [hy] at hc hu hp hcp
    rw [hy]
    refine goP Tryz.func16 rfl rfl rfl rfl ?_ ?_
    · simp only [List.map_cons, List.map_nil, hu, pureVs, hp, Bool.and_self]
    intro t ht
    have a0 : tget t 0 = .agg [y0, y1, y2, y3, y4, y5] := ht 0 _ (by simp only [List.map_cons, hu]; rfl)
    clear ht
    have ex := And.intro @a0 (And.intro @hpB (And.intro @hpE @zvE))
    repeat' (first
     | (with_reducible refine isO ?_); first
       | refine mvA (h := ?_)
       | refine asA (h := ?_)
       | refine quA (h := ?_)
       | refine wnA (h := ?_)
       | refine caA (hc := hc _) (h := ?_)
       | refine caA (hc := hcp _) (h := ?_)
     | (with_reducible refine isC ?_); first
       | refine ctA (h := ?_)
       | refine cfA (h := ?_)
       | refine cdA (h1 := fun _ => ?_) (h0 := fun _ => ?_)
       | refine cbA (h1 := fun _ => ?_) (h0 := fun _ => ?_)
     | with_reducible refine Ev.seq ?_
     | with_reducible refine Ev.ops ?_
     | with_reducible refine NxE ?_
     | with_reducible refine BxN ?_
     | with_reducible refine BxX ?_
     | with_reducible refine NxX ?_
     | with_reducible refine NxR ?_
     | with_reducible refine BxR ?_
     | with_reducible refine NxG ?_
     | with_reducible refine BxG ?_
     | with_reducible refine GxR ?_
     | with_reducible refine GxN ?_
     | with_reducible refine GxX ?_
     | with_reducible refine Ev.goto ?_
     | with_reducible refine Ev.block ?_
     | with_reducible refine Ev.skip ?_
     | with_reducible refine Ev.exit ?_
     | with_reducible refine Ev.ret ?_
     | with_reducible refine Ev.label ?_
     | with_reducible refine EvOps.nil ?_
     | with_reducible refine EvPlan.nil ?_
     | (with_reducible refine BxO ?_ ?_; · decide)
     )
    all_goals refine lfA (rl := [.cell 2 25]) rfl (hv := by
      simp only [packV, strip, stripAgg, stripCell, List.map_cons, List.map_nil]
      exact hsy) (hp := hpy)

set_option maxHeartbeats 8000000 in
theorem RDenyS (e : E) (hok : e.Ok) (st : St) : FnS cx 19 [e.c] st (dnR e).c st := by
  have hc := RCheckS e hok
  have hsy := strip_c (dnR_z e)
  have hpy := E.pure (dnR e)
  cases h : okE 1 e
  · unfold chk at hc
    rw [h] at hc
    have hs2 := strip_c2 e
    rw [show dnR e = e.strip by unfold dnR; rw [h]; rfl] at hsy hpy ⊢
    have hu := unown_c e
    have hp := E.pure e
    obtain ⟨y0, y1, y2, y3, y4, y5, hy⟩ := c_six e
    rw [hy] at hc hu hp hs2 ⊢
    refine goP Tryz.func19 rfl rfl rfl rfl ?_ ?_
    · simp only [List.map_cons, List.map_nil, hu, pureVs, hp, Bool.and_self]
    intro t ht
    have a0 : tget t 0 = .agg [y0, y1, y2, y3, y4, y5] := ht 0 _ (by simp only [List.map_cons, hu]; rfl)
    clear ht
    have ex := And.intro @a0 (And.intro @hpB (And.intro @hpE @zvE))
    repeat' (first
     | (with_reducible refine isO ?_); first
       | refine mvA (h := ?_)
       | refine asA (h := ?_)
       | refine quA (h := ?_)
       | refine wnA (h := ?_)
       | refine caA (hc := hc _) (h := ?_)
     | (with_reducible refine isC ?_); first
       | refine ctA (h := ?_)
       | refine cfA (h := ?_)
       | refine cdA (h1 := fun _ => ?_) (h0 := fun _ => ?_)
       | refine cbA (h1 := fun _ => ?_) (h0 := fun _ => ?_)
     | with_reducible refine Ev.seq ?_
     | with_reducible refine Ev.ops ?_
     | with_reducible refine NxE ?_
     | with_reducible refine BxN ?_
     | with_reducible refine BxX ?_
     | with_reducible refine NxX ?_
     | with_reducible refine NxR ?_
     | with_reducible refine BxR ?_
     | with_reducible refine NxG ?_
     | with_reducible refine BxG ?_
     | with_reducible refine GxR ?_
     | with_reducible refine GxN ?_
     | with_reducible refine GxX ?_
     | with_reducible refine Ev.goto ?_
     | with_reducible refine Ev.block ?_
     | with_reducible refine Ev.skip ?_
     | with_reducible refine Ev.exit ?_
     | with_reducible refine Ev.ret ?_
     | with_reducible refine Ev.label ?_
     | with_reducible refine EvOps.nil ?_
     | with_reducible refine EvPlan.nil ?_
     | (with_reducible refine BxO ?_ ?_; · decide)
     )
    all_goals refine lfA (rl := [.cell 2 25]) rfl (hv := by
      simp only [packV, strip, stripAgg, stripCell, List.map_cons, List.map_nil]
      exact hs2) (hp := hpy)
  · unfold chk at hc
    rw [h] at hc
    have hcp := denyS e hok 1 h true
    rw [show dnR e = negE e true by unfold dnR; rw [h]; rfl] at hsy hpy ⊢
    obtain ⟨x0, x1, x2, x3, x4, x5, hx⟩ := c_six (negE e true)
    rw [hx] at hcp hsy hpy ⊢
    have hu := unown_c e
    have hp := E.pure e
    obtain ⟨y0, y1, y2, y3, y4, y5, hy⟩ := c_six e
    rw [hy] at hc hu hp hcp
    rw [hy]
    refine goP Tryz.func19 rfl rfl rfl rfl ?_ ?_
    · simp only [List.map_cons, List.map_nil, hu, pureVs, hp, Bool.and_self]
    intro t ht
    have a0 : tget t 0 = .agg [y0, y1, y2, y3, y4, y5] := ht 0 _ (by simp only [List.map_cons, hu]; rfl)
    clear ht
    have ex := And.intro @a0 (And.intro @hpB (And.intro @hpE @zvE))
    repeat' (first
     | (with_reducible refine isO ?_); first
       | refine mvA (h := ?_)
       | refine asA (h := ?_)
       | refine quA (h := ?_)
       | refine wnA (h := ?_)
       | refine caA (hc := hc _) (h := ?_)
       | refine caA (hc := hcp _) (h := ?_)
     | (with_reducible refine isC ?_); first
       | refine ctA (h := ?_)
       | refine cfA (h := ?_)
       | refine cdA (h1 := fun _ => ?_) (h0 := fun _ => ?_)
       | refine cbA (h1 := fun _ => ?_) (h0 := fun _ => ?_)
     | with_reducible refine Ev.seq ?_
     | with_reducible refine Ev.ops ?_
     | with_reducible refine NxE ?_
     | with_reducible refine BxN ?_
     | with_reducible refine BxX ?_
     | with_reducible refine NxX ?_
     | with_reducible refine NxR ?_
     | with_reducible refine BxR ?_
     | with_reducible refine NxG ?_
     | with_reducible refine BxG ?_
     | with_reducible refine GxR ?_
     | with_reducible refine GxN ?_
     | with_reducible refine GxX ?_
     | with_reducible refine Ev.goto ?_
     | with_reducible refine Ev.block ?_
     | with_reducible refine Ev.skip ?_
     | with_reducible refine Ev.exit ?_
     | with_reducible refine Ev.ret ?_
     | with_reducible refine Ev.label ?_
     | with_reducible refine EvOps.nil ?_
     | with_reducible refine EvPlan.nil ?_
     | (with_reducible refine BxO ?_ ?_; · decide)
     )
    all_goals refine lfA (rl := [.cell 2 25]) rfl (hv := by
      simp only [packV, strip, stripAgg, stripCell, List.map_cons, List.map_nil]
      exact hsy) (hp := hpy)

set_option maxHeartbeats 8000000 in
theorem PlainS (e : E) (hok : e.Ok) (h : okE 1 e = true) (st : St) : FnS cx 20 [e.c] st (negE e false).c st := by
  have hsy := strip_c (neg_z e false)
  have hpy := E.pure (negE e false)
  have hcp := denyS e hok 1 h false
  obtain ⟨x0, x1, x2, x3, x4, x5, hx⟩ := c_six (negE e false)
  rw [hx] at hcp hsy hpy ⊢
  have hu := unown_c e
  have hp := E.pure e
  obtain ⟨y0, y1, y2, y3, y4, y5, hy⟩ := c_six e
  rw [hy] at hu hp hcp
  rw [hy]
  refine goP Tryz.func20 rfl rfl rfl rfl ?_ ?_
  · simp only [List.map_cons, List.map_nil, hu, pureVs, hp, Bool.and_self]
  intro t ht
  have a0 : tget t 0 = .agg [y0, y1, y2, y3, y4, y5] := ht 0 _ (by simp only [List.map_cons, hu]; rfl)
  clear ht
  have ex := And.intro @a0 (And.intro @hpB (And.intro @hpE @zvE))
  repeat' (first
   | (with_reducible refine isO ?_); first
     | refine mvA (h := ?_)
     | refine asA (h := ?_)
     | refine quA (h := ?_)
     | refine wnA (h := ?_)
     | refine caA (hc := hcp _) (h := ?_)
   | (with_reducible refine isC ?_); first
     | refine ctA (h := ?_)
     | refine cfA (h := ?_)
     | refine cdA (h1 := fun _ => ?_) (h0 := fun _ => ?_)
     | refine cbA (h1 := fun _ => ?_) (h0 := fun _ => ?_)
   | with_reducible refine Ev.seq ?_
   | with_reducible refine Ev.ops ?_
   | with_reducible refine NxE ?_
   | with_reducible refine BxN ?_
   | with_reducible refine BxX ?_
   | with_reducible refine NxX ?_
   | with_reducible refine NxR ?_
   | with_reducible refine BxR ?_
   | with_reducible refine NxG ?_
   | with_reducible refine BxG ?_
   | with_reducible refine GxR ?_
   | with_reducible refine GxN ?_
   | with_reducible refine GxX ?_
   | with_reducible refine Ev.goto ?_
   | with_reducible refine Ev.block ?_
   | with_reducible refine Ev.skip ?_
   | with_reducible refine Ev.exit ?_
   | with_reducible refine Ev.ret ?_
   | with_reducible refine Ev.label ?_
   | with_reducible refine EvOps.nil ?_
   | with_reducible refine EvPlan.nil ?_
   | (with_reducible refine BxO ?_ ?_; · decide)
   )
  all_goals refine lfA (rl := [.cell 2 25]) rfl (hv := by
      simp only [packV, strip, stripAgg, stripCell, List.map_cons, List.map_nil]
      exact hsy) (hp := hpy)
end Go.Proofs.YtklcmgodhpediaaGreatDoor
