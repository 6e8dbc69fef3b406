/- The law of numbers, by the program. -/
import Derived.Test.YtmdiieignlidhaaDoorLexV15
import Derived.Test.YtmdiieignlidhaaDoorLexV16
set_option linter.unusedSimpArgs false
set_option linter.unusedVariables false
set_option linter.unusedSectionVars false
set_option maxRecDepth 100000
namespace Go.Proofs.YtmdiieignlidhaaDoor
open Go Go.Vm Go.Proofs

theorem dsl16 : ∀ n : Fin 16, List.drop n.val (List.take (n.val + 1) ([48, 49, 50, 51, 52, 53, 54, 55, 56, 57, 97, 98, 99, 100, 101, 102] : List UInt8)) = [hexD n.val] := by decide +kernel
theorem dsl {z : Int} (h0 : 0 ≤ z) (h1 : z < 16) : List.drop z.toNat (List.take (z + 1).toNat ([48, 49, 50, 51, 52, 53, 54, 55, 56, 57, 97, 98, 99, 100, 101, 102] : List UInt8)) = [hexD z.toNat] := by
  rw [show (z + 1).toNat = z.toNat + 1 by omega]
  exact dsl16 ⟨z.toNat, by omega⟩
theorem dslN {m : Nat} (h1 : m < 16) : List.drop m (List.take ((m : Int) + 1).toNat ([48, 49, 50, 51, 52, 53, 54, 55, 56, 57, 97, 98, 99, 100, 101, 102] : List UInt8)) = [hexD m] := by
  rw [show ((m : Int) + 1).toNat = m + 1 by omega]
  exact dsl16 ⟨m, h1⟩
theorem hexD_small {n : Nat} (h : n < 10) : hexD n = UInt8.ofNat (48 + n) := by unfold hexD; rw [if_pos h]
theorem numText_len {n ip mac : Nat} (hn : n < 18446744073709551616) (hip : ip < 4294967296) : (Lib.decDigits n).length ≤ 20 ∧ (hexDigits n).length ≤ 16 ∧ (addrText ip).length ≤ 100 ∧ (macText mac).length = 17 := by
  refine ⟨decD_len n 19 (Nat.lt_trans hn (by decide)), hexU_length n 15 (by simpa using hn), ?_, macText_length mac⟩
  rw [addrText_eq]
  have h (b : Nat) (hb : b < 256) : (Lib.decDigits b).length ≤ 3 := decD_len b 2 (by simp only [Nat.reduceAdd, Nat.reducePow]; omega)
  have h1 := h (ip / 256 ^ 3 % 256) (Nat.mod_lt _ (by omega))
  have h2 := h (ip / 256 ^ 2 % 256) (Nat.mod_lt _ (by omega))
  have h3 := h (ip / 256 % 256) (Nat.mod_lt _ (by omega))
  have h4 := h (ip % 256) (Nat.mod_lt _ (by omega))
  simp only [List.length_append, List.length_cons]
  omega
theorem numText_lex (n ip mac : Nat) (hn : n < 18446744073709551616) (hip : ip < 4294967296) : ∃ p1 p2 p3 p4 p5 p6 p7 : Nat, lexA (numText n ip mac) =
    ([⟨2, Lib.decDigits n, n, p1⟩, ⟨2, 48 :: 120 :: hexDigits n, n, p2⟩, ⟨5, [47], 0, p3⟩, ⟨4, addrText ip, ip, p4⟩, ⟨5, [44], 0, p5⟩, ⟨3, macText mac, (mac % 2 ^ 48 : Nat), p6⟩, endTok p7], 0, 0) := by
  obtain ⟨a1, a2, a3, a4⟩ := numText_len (mac := mac) hn hip
  have hl : (numText n ip mac).length ≤ 200 ∧ 17 ≤ (numText n ip mac).length := by
    unfold numText
    simp only [List.length_append, List.length_cons]
    omega
  obtain ⟨p1, p2, p3, p4, p5, p6, p7, h⟩ := numText_toks n ip mac hn hip ((numText n ip mac).length + 1) (by omega)
  exact ⟨p1, p2, p3, p4, p5, p6, p7, lexA_ok _ (by omega) h⟩

set_option maxHeartbeats 16000000 in
theorem numbersS (n ip mac : Nat) (hn : n < 18446744073709551616) (hip : ip < 4294967296) (hm : mac < 18446744073709551616) (st : St) : FnS cx 5 [.int .u64 n, .int .u32 ip, .int .u64 mac] st (.bool true) st := by
  refine goP Tryd.func5 rfl rfl rfl rfl ?_ ?_
  · rfl
  intro t ht
  have a0 : tget t 0 = .int .u64 n := ht 0 _ rfl
  have a1 : tget t 1 = .int .u32 ip := ht 1 _ rfl
  have a2 : tget t 2 = .int .u64 mac := ht 2 _ rfl
  clear ht
  have ex := And.intro @a0 (And.intro @a1 (And.intro @a2 (And.intro @tok_refl (And.intro @castE (And.intro @lenTok (And.intro @szTok @zv30))))))
  repeat' (first
   | (with_reducible refine isO ?_); first
     | refine mvA (h := ?_)
     | refine asA (h := ?_)
     | refine quA (h := ?_)
   | (with_reducible refine isG ?_); first
     | refine stA (h := ?_)
     | refine srA (h := ?_)
     | refine swA (h := ?_)
     | refine s1A (h := ?_)
     | refine s0A (h := ?_)
     | refine sgA (h1 := fun _ => ?_) (h0 := fun _ => ?_)
     | refine sbA (h1 := fun _ => ?_) (h0 := fun _ => ?_)
   | (with_reducible refine isC ?_); first
     | refine ctA (h := ?_)
     | refine cfA (h := ?_)
     | refine cdA (h1 := fun _ => ?_) (h0 := fun _ => ?_)
     | refine cbA (h1 := fun _ => ?_) (h0 := fun _ => ?_)
   | with_reducible refine Ev.seq ?_
   | with_reducible refine Ev.ops ?_
   | with_reducible refine NxE ?_
   | with_reducible refine BxN ?_
   | with_reducible refine BxX ?_
   | with_reducible refine NxX ?_
   | with_reducible refine NxR ?_
   | with_reducible refine BxR ?_
   | with_reducible refine NxG ?_
   | with_reducible refine BxG ?_
   | with_reducible refine GxR ?_
   | with_reducible refine GxN ?_
   | with_reducible refine GxX ?_
   | with_reducible refine Ev.goto ?_
   | with_reducible refine Ev.block ?_
   | with_reducible refine Ev.skip ?_
   | with_reducible refine Ev.exit ?_
   | with_reducible refine Ev.ret ?_
   | with_reducible refine Ev.label ?_
   | with_reducible refine EvOps.nil ?_
   | with_reducible refine EvPlan.nil ?_
   | (with_reducible refine BxO ?_ ?_; · decide)
   )
  refine loopT (fun r t st => ∃ (y : Nat) (w : List UInt8), r = y ∧ y ≤ n ∧ Lib.decDigits n = Lib.decDigits y ++ w ∧ tget t 0 = .int .u64 n ∧ tget t 1 = .int .u32 ip ∧ tget t 2 = .int .u64 mac ∧ tget t 7 = .str w ∧ tget t 8 = .str [] ∧ tget t 9 = .int .u64 y) (n := n) ?_ ?_
  · refine ⟨n, [], rfl, Nat.le_refl _, by simp, ?_, ?_, ?_, ?_, ?_, ?_⟩
    all_goals (simp only [↓evP, ↓tgP, ↓reduceIte, Nat.reduceEqDiff, reduceCtorEq, List.map_cons, List.map_nil, List.nil_append, List.append_nil, List.toList_toArray, a0, a1, a2]; try rfl)
  rintro r t st ⟨y, w, rfl, hy, he, c0, c1, c2, c7, c8, c9⟩
  obtain ⟨l1, l2, l3, l4⟩ := numText_len (mac := mac) hn hip
  have hw : w.length ≤ 20 := by rw [he, List.length_append] at l1; omega
  by_cases hr10 : r < 10
  case neg =>
    have ex := And.intro @c0 (And.intro @c1 (And.intro @c2 (And.intro @c7 (And.intro @c8 (And.intro @c9 (And.intro @dsl (And.intro @dslN (And.intro @tok_refl (And.intro @castE (And.intro @lenTok (And.intro @szTok @zv30)))))))))))
    repeat' (first
     | (with_reducible refine isO ?_); first
       | refine mvA (h := ?_)
       | refine asA (h := ?_)
       | refine quA (h := ?_)
     | (with_reducible refine isG ?_); first
       | refine stA (h := ?_)
       | refine srA (h := ?_)
       | refine swA (h := ?_)
       | refine s1A (h := ?_)
       | refine s0A (h := ?_)
       | refine sgA (h1 := fun _ => ?_) (h0 := fun _ => ?_)
       | refine sbA (h1 := fun _ => ?_) (h0 := fun _ => ?_)
     | (with_reducible refine isC ?_); first
       | refine ctA (h := ?_)
       | refine cfA (h := ?_)
       | refine cdA (h1 := fun _ => ?_) (h0 := fun _ => ?_)
       | refine cbA (h1 := fun _ => ?_) (h0 := fun _ => ?_)
     | with_reducible refine Ev.seq ?_
     | with_reducible refine Ev.ops ?_
     | with_reducible refine NxE ?_
     | with_reducible refine BxN ?_
     | with_reducible refine BxX ?_
     | with_reducible refine NxX ?_
     | with_reducible refine NxR ?_
     | with_reducible refine BxR ?_
     | with_reducible refine NxG ?_
     | with_reducible refine BxG ?_
     | with_reducible refine GxR ?_
     | with_reducible refine GxN ?_
     | with_reducible refine GxX ?_
     | with_reducible refine Ev.goto ?_
     | with_reducible refine Ev.block ?_
     | with_reducible refine Ev.skip ?_
     | with_reducible refine Ev.exit ?_
     | with_reducible refine Ev.ret ?_
     | with_reducible refine Ev.label ?_
     | with_reducible refine EvOps.nil ?_
     | with_reducible refine EvPlan.nil ?_
     | (with_reducible refine BxO ?_ ?_; · decide)
     )
    all_goals first
      | (exfalso; omega)
      | (refine ⟨r / 10, by omega, rfl, r / 10, UInt8.ofNat (48 + r % 10) :: w, rfl, by omega, by rw [he, decD_big hr10]; simp, ?_, ?_, ?_, ?_, ?_, ?_⟩ <;> simp only [↓evP, ↓tgP, ↓reduceIte, Nat.reduceEqDiff, reduceCtorEq, List.map_cons, List.map_nil, List.nil_append, List.append_nil, List.toList_toArray, c0, c1, c2, c7, c8, c9]
         · rw [show ((r : Int) % 10).toNat = r % 10 by omega, hexD_small (by omega)]
         · first | rfl | (congr 1; omega))
  have hdec : Lib.decDigits n = hexD r :: w := by rw [he, decD_small hr10, hexD_small hr10]; rfl
  have ex := And.intro @c0 (And.intro @c1 (And.intro @c2 (And.intro @c7 (And.intro @c8 (And.intro @c9 (And.intro @dsl (And.intro @dslN (And.intro @tok_refl (And.intro @castE (And.intro @lenTok (And.intro @szTok @zv30)))))))))))
  repeat' (first
   | (with_reducible refine isO ?_); first
     | refine mvA (h := ?_)
     | refine asA (h := ?_)
     | refine quA (h := ?_)
   | (with_reducible refine isG ?_); first
     | refine stA (h := ?_)
     | refine srA (h := ?_)
     | refine swA (h := ?_)
     | refine s1A (h := ?_)
     | refine s0A (h := ?_)
     | refine sgA (h1 := fun _ => ?_) (h0 := fun _ => ?_)
     | refine sbA (h1 := fun _ => ?_) (h0 := fun _ => ?_)
   | (with_reducible refine isC ?_); first
     | refine ctA (h := ?_)
     | refine cfA (h := ?_)
     | refine cdA (h1 := fun _ => ?_) (h0 := fun _ => ?_)
     | refine cbA (h1 := fun _ => ?_) (h0 := fun _ => ?_)
   | with_reducible refine Ev.seq ?_
   | with_reducible refine Ev.ops ?_
   | with_reducible refine NxE ?_
   | with_reducible refine BxN ?_
   | with_reducible refine BxX ?_
   | with_reducible refine NxX ?_
   | with_reducible refine NxR ?_
   | with_reducible refine BxR ?_
   | with_reducible refine NxG ?_
   | with_reducible refine BxG ?_
   | with_reducible refine GxR ?_
   | with_reducible refine GxN ?_
   | with_reducible refine GxX ?_
   | with_reducible refine Ev.goto ?_
   | with_reducible refine Ev.block ?_
   | with_reducible refine Ev.skip ?_
   | with_reducible refine Ev.exit ?_
   | with_reducible refine Ev.ret ?_
   | with_reducible refine Ev.label ?_
   | with_reducible refine EvOps.nil ?_
   | with_reducible refine EvPlan.nil ?_
   | (with_reducible refine BxO ?_ ?_; · decide)
   )
  refine loopT (fun r t st => ∃ (y : Nat) (w : List UInt8), r = y ∧ y ≤ n ∧ hexDigits n = hexDigits y ++ w ∧ tget t 0 = .int .u64 n ∧ tget t 1 = .int .u32 ip ∧ tget t 2 = .int .u64 mac ∧ tget t 7 = .str (Lib.decDigits n) ∧ tget t 8 = .str w ∧ tget t 10 = .int .u64 y) (n := n) ?_ ?_
  · refine ⟨n, [], rfl, Nat.le_refl _, by simp, ?_, ?_, ?_, ?_, ?_, ?_⟩
    all_goals (simp only [↓evP, ↓tgP, ↓reduceIte, Nat.reduceEqDiff, reduceCtorEq, List.map_cons, List.map_nil, List.nil_append, List.append_nil, List.toList_toArray, c0, c1, c2, c7, c8, c9]; try rfl)
    all_goals (first | rw [hdec] | rw [hdec, show ((r : Int) % 10).toNat = r by omega])
  clear c0 c1 c2 c7 c8 c9
  clear ex
  rintro r2 t2 st2 ⟨y2, w2, rfl, hy2, he2, c0, c1, c2, c7, c8, c10⟩
  have hw2 : w2.length ≤ 20 := by rw [he2, List.length_append] at l2; omega
  by_cases hr16 : r2 < 16
  case neg =>
    have ex := And.intro @c0 (And.intro @c1 (And.intro @c2 (And.intro @c7 (And.intro @c8 (And.intro @c10 (And.intro @dsl (And.intro @dslN (And.intro @tok_refl (And.intro @castE (And.intro @lenTok (And.intro @szTok @zv30)))))))))))
    repeat' (first
     | (with_reducible refine isO ?_); first
       | refine mvA (h := ?_)
       | refine asA (h := ?_)
       | refine quA (h := ?_)
     | (with_reducible refine isG ?_); first
       | refine stA (h := ?_)
       | refine srA (h := ?_)
       | refine swA (h := ?_)
       | refine s1A (h := ?_)
       | refine s0A (h := ?_)
       | refine sgA (h1 := fun _ => ?_) (h0 := fun _ => ?_)
       | refine sbA (h1 := fun _ => ?_) (h0 := fun _ => ?_)
     | (with_reducible refine isC ?_); first
       | refine ctA (h := ?_)
       | refine cfA (h := ?_)
       | refine cdA (h1 := fun _ => ?_) (h0 := fun _ => ?_)
       | refine cbA (h1 := fun _ => ?_) (h0 := fun _ => ?_)
     | with_reducible refine Ev.seq ?_
     | with_reducible refine Ev.ops ?_
     | with_reducible refine NxE ?_
     | with_reducible refine BxN ?_
     | with_reducible refine BxX ?_
     | with_reducible refine NxX ?_
     | with_reducible refine NxR ?_
     | with_reducible refine BxR ?_
     | with_reducible refine NxG ?_
     | with_reducible refine BxG ?_
     | with_reducible refine GxR ?_
     | with_reducible refine GxN ?_
     | with_reducible refine GxX ?_
     | with_reducible refine Ev.goto ?_
     | with_reducible refine Ev.block ?_
     | with_reducible refine Ev.skip ?_
     | with_reducible refine Ev.exit ?_
     | with_reducible refine Ev.ret ?_
     | with_reducible refine Ev.label ?_
     | with_reducible refine EvOps.nil ?_
     | with_reducible refine EvPlan.nil ?_
     | (with_reducible refine BxO ?_ ?_; · decide)
     )
    all_goals first
      | (exfalso; omega)
      | (refine ⟨r2 / 16, by omega, rfl, r2 / 16, hexD (r2 % 16) :: w2, rfl, by omega, by rw [he2, hexU_big hr16]; simp, ?_, ?_, ?_, ?_, ?_, ?_⟩ <;> simp only [↓evP, ↓tgP, ↓reduceIte, Nat.reduceEqDiff, reduceCtorEq, List.map_cons, List.map_nil, List.nil_append, List.append_nil, List.toList_toArray, c0, c1, c2, c7, c8, c10]
         · rw [show ((r2 : Int) % 16).toNat = r2 % 16 by omega]
         · first | rfl | (congr 1; omega))
  have hhex : hexDigits n = hexD r2 :: w2 := by rw [he2, hexU_small hr16]; rfl
  have hr2 : ((r2 : Int) % 16).toNat = r2 := by omega
  obtain ⟨p1, p2, p3, p4, p5, p6, p7, hA⟩ := numText_lex n ip mac hn hip
  have htext : Lib.decDigits n ++ [32, 48, 120] ++ hexD r2 :: w2 ++ [47] ++ addrText ip ++ [44] ++ macText mac = numText n ip mac := by
    unfold numText
    rw [hhex]
    simp
  have htok : ∀ st, FnS cx 7 [.str (Lib.decDigits n ++ [32, 48, 120] ++ hexD r2 :: w2 ++ [47] ++ addrText ip ++ [44] ++ macText mac)] st (.tup [.sl .none [.agg [.int .i64 2, .str (Lib.decDigits n), .int .u64 n, .int .i64 p1], .agg [.int .i64 2, .str (48 :: 120 :: hexD r2 :: w2), .int .u64 n, .int .i64 p2], .agg [.int .i64 5, .str [47], .int .u64 0, .int .i64 p3], .agg [.int .i64 4, .str (addrText ip), .int .u64 ip, .int .i64 p4], .agg [.int .i64 5, .str [44], .int .u64 0, .int .i64 p5], .agg [.int .i64 3, .str (macText mac), .int .u64 ((mac % 2 ^ 48 : Nat) : Int), .int .i64 p6], .agg [.int .i64 7, .str [], .int .u64 0, .int .i64 p7]], .int .i64 0, .int .i64 0]) st := fun st => by
    rw [htext, ← hhex]
    exact toksX hA (by
      unfold numText
      simp only [List.length_append, List.length_cons]
      omega) st
  have hl2 : (hexD r2 :: w2).length ≤ 20 := by rw [← hhex]; omega
  have hl2' : w2.length ≤ 19 := by simpa using hl2
  have hmac : (mac : Int) % 281474976710656 = ((mac % 2 ^ 48 : Nat) : Int) := by omega
  have ex := And.intro @c0 (And.intro @c1 (And.intro @c2 (And.intro @c7 (And.intro @c8 (And.intro @c10 (And.intro @dsl (And.intro @dslN (And.intro @hr2 (And.intro @lenApp (And.intro @hmac (And.intro @tok_refl (And.intro @castE (And.intro @lenTok (And.intro @szTok @zv30))))))))))))))
  repeat' (first
   | (with_reducible refine isO ?_); first
     | refine mvA (h := ?_)
     | refine asA (h := ?_)
     | refine quA (h := ?_)
     | refine caA (hc := refAddrS _ hip _) (h := ?_)
     | refine caA (hc := refMacS _ hm _) (h := ?_)
     | refine caA (hc := htok _) (h := ?_)
     | refine caA (hc := livesS _) (h := ?_)
   | (with_reducible refine isG ?_); first
     | refine stA (h := ?_)
     | refine srA (h := ?_)
     | refine swA (h := ?_)
     | refine s1A (h := ?_)
     | refine s0A (h := ?_)
     | refine sgA (h1 := fun _ => ?_) (h0 := fun _ => ?_)
     | refine sbA (h1 := fun _ => ?_) (h0 := fun _ => ?_)
   | (with_reducible refine isC ?_); first
     | refine ctA (h := ?_)
     | refine cfA (h := ?_)
     | refine cdA (h1 := fun _ => ?_) (h0 := fun _ => ?_)
     | refine cbA (h1 := fun _ => ?_) (h0 := fun _ => ?_)
   | with_reducible refine Ev.seq ?_
   | with_reducible refine Ev.ops ?_
   | with_reducible refine NxE ?_
   | with_reducible refine BxN ?_
   | with_reducible refine BxX ?_
   | with_reducible refine NxX ?_
   | with_reducible refine NxR ?_
   | with_reducible refine BxR ?_
   | with_reducible refine NxG ?_
   | with_reducible refine BxG ?_
   | with_reducible refine GxR ?_
   | with_reducible refine GxN ?_
   | with_reducible refine GxX ?_
   | with_reducible refine Ev.goto ?_
   | with_reducible refine Ev.block ?_
   | with_reducible refine Ev.skip ?_
   | with_reducible refine Ev.exit ?_
   | with_reducible refine Ev.ret ?_
   | with_reducible refine Ev.label ?_
   | with_reducible refine EvOps.nil ?_
   | with_reducible refine EvPlan.nil ?_
   | (with_reducible refine BxO ?_ ?_; · decide)
   )
  all_goals first
    | (exfalso; omega)
    | refine lfA (rl := [.tmp 6]) rfl (hv := by
      simp only [packV, strip, stripAgg, stripCell, List.map_cons, List.map_nil]
      (first | done | rfl)) (hp := rfl)
end Go.Proofs.YtmdiieignlidhaaDoor
