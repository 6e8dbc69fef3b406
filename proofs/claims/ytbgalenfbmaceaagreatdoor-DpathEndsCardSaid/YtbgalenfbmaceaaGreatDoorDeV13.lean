/- A program of two flows: facts. -/
import Derived.Test.YtbgalenfbmaceaaGreatDoorDeV11
import Derived.Test.YtbgalenfbmaceaaGreatDoorDeV12
import Derived.Test.YtbgalenfbmaceaaGreatDoorN26
set_option linter.unusedSimpArgs false
set_option linter.unusedVariables false
set_option maxRecDepth 1000000
namespace Go.Proofs.YtbgalenfbmaceaaGreatDoor.D
open Go Go.Vm Go.Proofs Go.Proofs.YtbgalenfbmaceaaGreatDoor

theorem FnS.sub {k : FuncId} {args : List V} {st : St} {v : V} {H H2 : List (Nat × Ob)} {n : Nat} (h : FnS cw k args st v ⟨H, n⟩) (hs : H2.Sublist H) : FnS cw k args st v ⟨H2, n⟩ := by
  refine ⟨⟨fun a b c => ?_⟩⟩
  have := h.ex.ex a b c
  refine ⟨this.1, fun g w0 base w args' h1 h2 h3 => (this.2 g w0 base w args' h1 h2 h3).mono fun e w' => ?_⟩
  rintro ⟨v1, st1, v', g', ⟨e1, e2⟩, hn, he, hx, hv', hg⟩
  subst e1; subst e2
  exact ⟨v1, ⟨H2, n⟩, v', g', ⟨rfl, rfl⟩, hn, he, hx, hv', hg.sub hs (Nat.le_refl _)⟩
theorem newC (H : List (Nat × Ob)) (n : Nat) : FnS cw 10 [] ⟨H, n⟩ (.ptr (n + 1 + 1) 0) ⟨(n + 1 + 1, .cells [.map n, .map (n + 1)]) :: (n + 1, .map []) :: (n, .map []) :: H, n + 1 + 1 + 1⟩ := ⟨Vm.Fn.ofG (n := 20) (by kernel_rfl) ⟨rfl, rfl⟩⟩
theorem addE1 (c0 c2 c3 c4 : List V) (m1 : List (V × V)) : FnS cw 11 [.ptr 9 0, .agg [.int .i64 0, .sl .none [], .int .i64 1]] ⟨[(9, .cells [.map 7, .map 8]), (8, .map []), (7, .map []), (6, .tip 1), (5, .tip 4), (4, .cells c4), (3, .cells c3), (2, .cells c2), (1, .map m1), (0, .cells c0)], 10⟩ (.int .i64 0) ⟨[(13, .cells [.sl .full [], .map 12, .int .i64 1]), (12, .map [(.str [], .sl (.own 15) [.agg [.int .i64 0, .sl .none [], .int .i64 1]])]), (9, .cells [.map 7, .map 8]), (7, .map [(.str [], .ptr 13 0)]), (6, .tip 1), (5, .tip 4), (4, .cells c4), (3, .cells c3), (2, .cells c2), (1, .map m1), (0, .cells c0)], 16⟩ := by
  refine FnS.sub (H := [(15, .tip 3), (13, .cells [.sl .full [], .map 12, .int .i64 1]), (12, .map [(.str [], .sl (.own 15) [.agg [.int .i64 0, .sl .none [], .int .i64 1]])]), (11, .cells [.int .i64 0, .sl .full [], .int .i64 0]), (10, .cells [.int .i64 0, .sl .full [], .int .i64 1]), (9, .cells [.map 7, .map 8]), (8, .map [(.int .i64 1, .agg [.int .i64 0, .sl .full [], .int .i64 1])]), (7, .map [(.str [], .ptr 13 0)]), (6, .tip 1), (5, .tip 4), (4, .cells c4), (3, .cells c3), (2, .cells c2), (1, .map m1), (0, .cells c0)]) ⟨Vm.Fn.ofG (n := 100) (by kernel_rfl) ⟨rfl, rfl⟩⟩ ?_
  repeat (first | exact List.Sublist.slnil | exact List.Sublist.refl _ | apply List.Sublist.cons_cons | apply List.Sublist.cons)
theorem addE2 (c0 c2 c4 c5 c6 c7 c8 c9 : List V) (m1 m4 m5 : List (V × V)) : FnS cw 11 [.ptr 22 0, .agg [.int .i64 0, .sl .none [], .int .i64 2]] ⟨[(22, .cells [.map 20, .map 21]), (21, .map []), (20, .map []), (19, .tip 1), (18, .tip 4), (17, .cells c7), (16, .cells c6), (13, .cells c5), (12, .map m5), (9, .cells c4), (7, .map m4), (4, .cells c8), (3, .cells c9), (2, .cells c2), (1, .map m1), (0, .cells c0)], 23⟩ (.int .i64 0) ⟨[(26, .cells [.sl .full [], .map 25, .int .i64 1]), (25, .map [(.str [], .sl (.own 28) [.agg [.int .i64 0, .sl .none [], .int .i64 2]])]), (22, .cells [.map 20, .map 21]), (20, .map [(.str [], .ptr 26 0)]), (19, .tip 1), (18, .tip 4), (17, .cells c7), (16, .cells c6), (13, .cells c5), (12, .map m5), (9, .cells c4), (7, .map m4), (4, .cells c8), (3, .cells c9), (2, .cells c2), (1, .map m1), (0, .cells c0)], 29⟩ := by
  refine FnS.sub (H := [(28, .tip 3), (26, .cells [.sl .full [], .map 25, .int .i64 1]), (25, .map [(.str [], .sl (.own 28) [.agg [.int .i64 0, .sl .none [], .int .i64 2]])]), (24, .cells [.int .i64 0, .sl .full [], .int .i64 0]), (23, .cells [.int .i64 0, .sl .full [], .int .i64 2]), (22, .cells [.map 20, .map 21]), (21, .map [(.int .i64 2, .agg [.int .i64 0, .sl .full [], .int .i64 2])]), (20, .map [(.str [], .ptr 26 0)]), (19, .tip 1), (18, .tip 4), (17, .cells c7), (16, .cells c6), (13, .cells c5), (12, .map m5), (9, .cells c4), (7, .map m4), (4, .cells c8), (3, .cells c9), (2, .cells c2), (1, .map m1), (0, .cells c0)]) ⟨Vm.Fn.ofG (n := 100) (by kernel_rfl) ⟨rfl, rfl⟩⟩ ?_
  repeat (first | exact List.Sublist.slnil | exact List.Sublist.refl _ | apply List.Sublist.cons_cons | apply List.Sublist.cons)
end Go.Proofs.YtbgalenfbmaceaaGreatDoor.D
