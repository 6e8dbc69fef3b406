/- Parse, where a text is an expression. -/
import Derived.Test.YtklcmgodhpediaaGreatDoorExK8
set_option linter.unusedSimpArgs false
set_option linter.unusedVariables false
set_option maxRecDepth 100000
namespace Go.Proofs.YtklcmgodhpediaaGreatDoor.K
open Go Go.Vm Go.Proofs Go.Proofs.YtklcmgodhpediaaGreatDoor

theorem rdC_unf (l : List L.Tok) (d : Int) : rdC l d = [.sl .none (l.map L.Tok.v), .sl .full [], .int .i64 d, .int .i64 0, .int .i64 0] := rfl
theorem parseS {sx : List UInt8} {l : List L.Tok} {te : List UInt8} {ne ae : Int} {e : E} (hs : sx.length ≤ 4611686018427387904) (ht : L.lexA sx = (l, 0, 0)) (hp : PS 27 0 l [⟨7, te, ne, ae⟩] e) (hz : e.z = false) (st : St) :
    FnS cx 13 [.str sx, .sl .full []] st (.tup [e.c, .int .i64 0, .int .i64 0]) st := by
  have htk : ∀ st, FnS cx 26 [.str sx] st (.tup [.sl .none (l.map L.Tok.v), .int .i64 0, .int .i64 0]) st := fun st => by
    have h := rt (L.tr (L.tokS sx hs st))
    rw [ht] at h
    exact h
  have h0 : FnS cx 27 [.ptr 1 0] ⟨[(1, .cells (rdC l 0)), (0, .cells [.int .i64 0, .int .i64 0, .int .i64 0, .int .u64 0, .int .u64 0, .sl .full []])], 2⟩ e.c ⟨[(1, .cells (rdC [⟨7, te, ne, ae⟩] 0)), (0, .cells [.int .i64 0, .int .i64 0, .int .i64 0, .int .u64 0, .int .u64 0, .sl .full []])], 2⟩ := by
    have h := hp 1 [(1, .cells (rdC l 0)), (0, .cells [.int .i64 0, .int .i64 0, .int .i64 0, .int .u64 0, .int .u64 0, .sl .full []])] 2 (fun p hp => by cases hp) rfl ((Low.nil.cons (by omega) (by rfl)).cons (by omega) lowRd)
    exact h
  have hpu := E.pure e
  obtain ⟨k, f, o, v, m, z, ps⟩ := e
  have hz' : z = false := hz
  subst hz'
  have hok : FnS cx 28 [.ptr 1 0] ⟨[(2, .cells [.int .i64 k, .int .i64 f, .int .i64 o, .int .u64 v, .int .u64 m, .sl .none (E.cs ps)]), (1, .cells (rdC [⟨7, te, ne, ae⟩] 0)), (0, .cells [.int .i64 0, .int .i64 0, .int .i64 0, .int .u64 0, .int .u64 0, .sl .full []])], 3⟩ (.bool true) ⟨[(2, .cells [.int .i64 k, .int .i64 f, .int .i64 o, .int .u64 v, .int .u64 m, .sl .none (E.cs ps)]), (1, .cells (rdC [⟨7, te, ne, ae⟩] 0)), (0, .cells [.int .i64 0, .int .i64 0, .int .i64 0, .int .u64 0, .int .u64 0, .sl .full []])], 3⟩ := okS (l := [⟨7, te, ne, ae⟩]) (d := 0) rfl
  have hec : (E.mk k f o v m false ps).c = .agg [.int .i64 k, .int .i64 f, .int .i64 o, .int .u64 v, .int .u64 m, .sl .none (E.cs ps)] := rfl
  rw [hec] at h0 hpu ⊢
  have e7 : ([(⟨7, te, ne, ae⟩ : L.Tok)] : List L.Tok).map L.Tok.v = [.agg [.int .i64 7, .str te, .int .u64 ne, .int .i64 ae]] := rfl
  simp only [rdC_unf, e7] at h0 hok
  generalize l.map L.Tok.v = tv at htk h0
  have hpt : pureV (.tup [.agg [.int .i64 k, .int .i64 f, .int .i64 o, .int .u64 v, .int .u64 m, .sl .none (E.cs ps)], .int .i64 0, .int .i64 0]) = true := by
    simp only [pureV, pureVs] at hpu ⊢
    simp only [hpu, Bool.and_self]
  refine goP Tryz.func13 rfl rfl rfl rfl ?_ ?_
  · rfl
  intro t ht
  have a0 : tget t 0 = .str sx := ht 0 _ rfl
  have a1 : tget t 1 = .sl .full [] := ht 1 _ rfl
  clear ht
  have ex := And.intro @a0 (And.intro @a1 (And.intro @hpB (And.intro @hpK @zvE)))
  repeat' (first
   | (with_reducible refine isO ?_); first | refine mvA (h := ?_) | refine asA (h := ?_) | refine quA (h := ?_) | refine wnA (h := ?_) | refine caA (hc := (htk _)) (h := ?_) | refine caA (hc := h0) (h := ?_) | refine caA (hc := hok) (h := ?_)
   | (with_reducible refine isG ?_); first | refine stA (h := ?_) | refine srA (h := ?_) | refine swA (h := ?_) | refine s1A (h := ?_) | refine s0A (h := ?_) | refine sgA (h1 := fun _ => ?_) (h0 := fun _ => ?_) | refine sbA (h1 := fun _ => ?_) (h0 := fun _ => ?_)
   | (with_reducible refine isP ?_); first | refine dqA (h := ?_) | refine dnA (i := 11) (l := [10, 5]) (h := ?_)
   | (with_reducible refine isC ?_); first | refine ctA (h := ?_) | refine cfA (h := ?_) | refine cdA (h1 := fun _ => ?_) (h0 := fun _ => ?_) | refine cbA (h1 := fun _ => ?_) (h0 := fun _ => ?_)
   | (with_reducible refine isR ?_); first
     | refine Ev.drawn (by decide +kernel) (l := [0, 1, 2, 3, 4, 5, 6, 7, 8, 9, 10, 11, 12, 13]) (by decide +kernel) ?_
   | with_reducible first | refine Ev.seq ?_ | refine Ev.ops ?_ | refine NxE ?_ | refine BxN ?_ | refine BxX ?_ | refine NxX ?_ | refine NxR ?_ | refine BxR ?_ | refine Ev.block ?_ | refine Ev.skip ?_ | refine Ev.exit ?_ | refine Ev.ret ?_ | refine EvOps.nil ?_ | refine EvPlan.nil ?_
   | (with_reducible refine BxO ?_ ?_; · decide)
   )
  refine lfA (rl := [.cell 4 25, .tmp 5, .tmp 6]) rfl (hv := by
      simp only [packV, strip, stripAgg, stripCell, List.map_cons, List.map_nil]
      first | done | rfl) (hp := hpt)
end Go.Proofs.YtklcmgodhpediaaGreatDoor.K
