/- The law of blanks, by the program. -/
import Derived.Test.YtmdiieignlidhaaDoorLexV180
set_option linter.unusedSimpArgs false
set_option linter.unusedVariables false
set_option linter.unusedSectionVars false
set_option maxRecDepth 100000
namespace Go.Proofs.YtmdiieignlidhaaDoor
open Go Go.Vm Go.Proofs


theorem last_tok (m : List Tok) (p : Nat) : ((m ++ [endTok p]).map Tok.v)[(((m ++ [endTok p]).length : Int) - 1).toNat]? = some (.agg [.int .i64 7, .str [], .int .u64 0, .int .i64 p]) := by
  have hn : (((m ++ [endTok p]).length : Int) - 1).toNat = m.length := by simp
  rw [hn, List.map_append, List.getElem?_append_right (by simp)]
  simp; rfl
theorem lenApp3 (a b : List UInt8) : (a ++ b).length = a.length + b.length := List.length_append
theorem blank_lex {F B sx : List UInt8} (hF : ∀ c ∈ F, c ≠ 10) (hB : ∀ c ∈ B, c = 32 ∨ c = 9 ∨ c = 10 ∨ c = 13) (hlen : (35 :: F ++ [10] ++ B).length + sx.length + 1 ≤ 4096) :
    match lexL sx 0 with
    | .inl l => ∃ m, lexA (35 :: F ++ [10] ++ B ++ sx ++ [32]) = (m ++ [endTok ((35 :: F ++ [10] ++ B).length + sx.length + 1 : Nat)], 0, 0) ∧ Same l (m ++ [endTok ((35 :: F ++ [10] ++ B).length + sx.length + 1 : Nat)])
    | .inr _ => ∃ b, lexA (35 :: F ++ [10] ++ B ++ sx ++ [32]) = ([], 140, b) ∧ (35 :: F ++ [10] ++ B).length ≤ b := by
  have e : (35 :: F ++ [10] ++ B ++ sx ++ [32] : List UInt8) = 35 :: F ++ 10 :: B ++ (sx ++ [32]) := by simp
  have hT : (35 :: F ++ [10] ++ B).length = F.length + 2 + B.length := by simp; omega
  have ht : (35 :: F ++ [10] ++ B ++ sx ++ [32]).length = F.length + B.length + sx.length + 3 := by simp; omega
  have hn := lexR_note F B (sx ++ [32]) hF hB (sx.length + 2 + F.length) 0
  have hfu : lexL (35 :: F ++ [10] ++ B ++ sx ++ [32]) 0 = lexR (sx.length + 2 + F.length) (sx ++ [32]) (0 + F.length + 2 + B.length) := by
    rw [← hn]
    unfold lexL
    rw [ht, e, List.drop_zero]
    congr 1; omega
  have hb := lexR_blank (sx.length + 1) sx 0 (sx.length + 2 + F.length) (0 + F.length + 2 + B.length) (by omega) (by omega)
  have hz : lexL sx 0 = lexR (sx.length + 1) sx 0 := rfl
  rw [hz, hT]
  have ez : 0 + F.length + 2 + B.length + sx.length + 1 = F.length + 2 + B.length + sx.length + 1 := by omega
  rw [ez] at hb
  split at hb
  · rename_i l hl
    rw [hl]
    obtain ⟨m, h1, h2⟩ := hb
    exact ⟨m, lexA_ok _ (by omega) (by rw [hfu, h1]), h2⟩
  · rename_i x hl
    rw [hl]
    obtain ⟨b, h1, h2⟩ := hb
    exact ⟨b, lexA_no _ (by omega) (by rw [hfu, h1]), by omega⟩
def blanksB (i : Nat) : List UInt8 := (List.range i).map fun k => ([32, 9, 13, 10] : List UInt8).getD (k % 4) 0
theorem blanksB_step (i : Nat) : blanksB (i + 1) = blanksB i ++ [([32, 9, 13, 10] : List UInt8).getD (i % 4) 0] := by unfold blanksB; rw [List.range_succ, List.map_append]; rfl
theorem blanksB_len (i : Nat) : (blanksB i).length = i := by unfold blanksB; simp
theorem blank4 : ∀ m : Fin 4, ([32, 9, 13, 10] : List UInt8).getD m.val 0 = 32 ∨ ([32, 9, 13, 10] : List UInt8).getD m.val 0 = 9 ∨ ([32, 9, 13, 10] : List UInt8).getD m.val 0 = 10 ∨ ([32, 9, 13, 10] : List UInt8).getD m.val 0 = 13 := by decide
theorem blanksB_all (i : Nat) : ∀ c ∈ blanksB i, c = 32 ∨ c = 9 ∨ c = 10 ∨ c = 13 := by
  intro c hc
  obtain ⟨k, _, rfl⟩ := List.mem_map.1 hc
  exact blank4 ⟨k % 4, Nat.mod_lt _ (by omega)⟩
theorem bsl4 : ∀ m : Fin 4, List.drop m.val (List.take (m.val + 1) ([32, 9, 13, 10] : List UInt8)) = [([32, 9, 13, 10] : List UInt8).getD m.val 0] := by decide
theorem bsl {i : Nat} : List.drop ((i : Int) % 4).toNat (List.take ((i : Int) % 4 + 1).toNat ([32, 9, 13, 10] : List UInt8)) = [([32, 9, 13, 10] : List UInt8).getD (i % 4) 0] := by
  rw [show ((i : Int) % 4).toNat = i % 4 by omega, show ((i : Int) % 4 + 1).toNat = i % 4 + 1 by omega]
  exact bsl4 ⟨i % 4, Nat.mod_lt _ (by omega)⟩
theorem nsl {note : List UInt8} {j : Nat} (h : j < note.length) : List.drop j (List.take (j + 1) note) = [note.getD j 0] := by
  rw [List.take_add_one, strAt h, List.drop_append_of_le_length (by simp; omega), List.drop_of_length_le (by simp; omega)]; rfl
def keepN (note : List UInt8) (j : Nat) : List UInt8 := (note.take j).filter fun c => decide (c ≠ 10)
theorem keepN_step {note : List UInt8} {j : Nat} (h : j < note.length) : keepN note (j + 1) = if note.getD j 0 = 10 then keepN note j else keepN note j ++ [note.getD j 0] := by
  unfold keepN
  rw [List.take_add_one, strAt h]
  show List.filter _ (note.take j ++ [note.getD j 0]) = _
  rw [List.filter_append]
  by_cases h10 : note.getD j 0 = 10
  · rw [if_pos h10, h10]
    have : List.filter (fun c => decide (c ≠ 10)) [(10 : UInt8)] = [] := by decide
    rw [this, List.append_nil]
  · rw [if_neg h10]
    have : List.filter (fun c => decide (c ≠ 10)) [note.getD j 0] = [note.getD j 0] := by rw [List.filter_cons, if_pos (by simpa using h10)]; rfl
    rw [this]
theorem keepN_len (note : List UInt8) (j : Nat) : (keepN note j).length ≤ j := by
  unfold keepN
  have := List.length_filter_le (fun c => decide (c ≠ 10)) (note.take j)
  rw [List.length_take] at this
  omega
theorem keepN_all (note : List UInt8) (j : Nat) : ∀ c ∈ keepN note j, c ≠ 10 := by
  intro c hc
  have := (List.mem_filter.1 hc).2
  simpa using this
theorem tmod8 (x : Int) : -7 ≤ x.tmod 8 ∧ x.tmod 8 ≤ 7 := by
  rcases Int.le_total 0 x with h | h
  · rw [Int.tmod_eq_emod_of_nonneg h]; omega
  · have : x.tmod 8 = -((-x).tmod 8) := by rw [Int.neg_tmod, Int.neg_neg]
    rw [this, Int.tmod_eq_emod_of_nonneg (by omega)]; omega
set_option maxHeartbeats 16000000 in
theorem blanksOk (sx : List UInt8) (hmax : sx.length ≤ 4611686018427387904) (ahead : Int) (hb1 : -9223372036854775808 ≤ ahead) (hb2 : ahead ≤ 9223372036854775807) (note : List UInt8) (hmaxn : note.length ≤ 4611686018427387904) (l : List Tok) (hL : lexL sx 0 = .inl l) (hA : lexA sx = (l, 0, 0)) (hll : l.length ≤ 1000000) (st : St) :
    FnS cx 3 [.str sx, .int .i64 ahead, .str note] st (.bool true) st := by
  have hq8 := tmod8 ahead
  generalize hq : ahead.tmod 8 = q at *
  refine goP Tryd.func3 rfl rfl rfl rfl ?_ ?_
  · rfl
  intro t ht
  have a0 : tget t 0 = .str sx := ht 0 _ rfl
  have a1 : tget t 1 = .int .i64 ahead := ht 1 _ rfl
  have a2 : tget t 2 = .str note := ht 2 _ rfl
  clear ht
  have ex := And.intro @a0 (And.intro @a1 (And.intro @a2 (And.intro @hq (And.intro @tok_refl (And.intro @castE (And.intro @lenTok (And.intro @szTok @zv30)))))))
  repeat' (first
   | (with_reducible refine isO ?_); first
     | refine mvA (h := ?_)
     | refine asA (h := ?_)
     | refine quA (h := ?_)
     | refine caA (hc := toksX hA hmax _) (h := ?_)
     | refine caA (hc := livesS _) (h := ?_)
   | (with_reducible refine isG ?_); first
     | refine stA (h := ?_)
     | refine srA (h := ?_)
     | refine swA (h := ?_)
     | refine s1A (h := ?_)
     | refine s0A (h := ?_)
     | refine sgA (h1 := fun _ => ?_) (h0 := fun _ => ?_)
     | refine sbA (h1 := fun _ => ?_) (h0 := fun _ => ?_)
   | (with_reducible refine isC ?_); first
     | refine ctA (h := ?_)
     | refine cfA (h := ?_)
     | refine cdA (h1 := fun _ => ?_) (h0 := fun _ => ?_)
     | refine cbA (h1 := fun _ => ?_) (h0 := fun _ => ?_)
   | with_reducible refine Ev.seq ?_
   | with_reducible refine Ev.ops ?_
   | with_reducible refine NxE ?_
   | with_reducible refine BxN ?_
   | with_reducible refine BxX ?_
   | with_reducible refine NxX ?_
   | with_reducible refine NxR ?_
   | with_reducible refine BxR ?_
   | with_reducible refine NxG ?_
   | with_reducible refine BxG ?_
   | with_reducible refine GxR ?_
   | with_reducible refine GxN ?_
   | with_reducible refine GxX ?_
   | with_reducible refine Ev.goto ?_
   | with_reducible refine Ev.block ?_
   | with_reducible refine Ev.skip ?_
   | with_reducible refine Ev.exit ?_
   | with_reducible refine Ev.ret ?_
   | with_reducible refine Ev.label ?_
   | with_reducible refine EvOps.nil ?_
   | with_reducible refine EvPlan.nil ?_
   | (with_reducible refine BxO ?_ ?_; · decide)
   )
  all_goals refine loopT (fun r t st => ∃ (j : Nat), r = 100 - j ∧ j ≤ 100 ∧ j ≤ note.length ∧ tget t 0 = .str sx ∧ tget t 2 = .str note ∧ tget t 7 = .sl .none (l.map Tok.v) ∧ tget t 8 = .int .i64 0 ∧ tget t 10 = .int .i64 (q.natAbs : Nat) ∧ tget t 11 = .str (35 :: keepN note j) ∧ tget t 12 = .int .i64 j) (n := 100) ?_ ?_
  all_goals first
    | (refine ⟨0, by omega, by omega, by omega, ?_, ?_, ?_, ?_, ?_, ?_, ?_⟩ <;> simp only [↓evP, ↓tgP, ↓reduceIte, Nat.reduceEqDiff, reduceCtorEq, List.map_cons, List.map_nil, List.nil_append, List.append_nil, List.toList_toArray, a0, a1, a2] <;> first | done | rfl | (congr 1; omega))
    | skip
  all_goals
    rintro r t st ⟨j, rfl, hj, hjn, c0, c2, c7, c8, c10, c11, c12⟩
    have hk := keepN_len note j
    have tj : ((j : Int) + 1).toNat = j + 1 := by omega
    have hj256 : (note.getD j 0).toNat < 256 := (note.getD j 0).toNat_lt
    have ex := And.intro @c0 (And.intro @c2 (And.intro @c7 (And.intro @c8 (And.intro @c10 (And.intro @c11 (And.intro @c12 (And.intro @strAt (And.intro @nsl (And.intro @tj (And.intro @tok_refl (And.intro @castE (And.intro @lenTok (And.intro @szTok @zv30)))))))))))))
    repeat' (first
     | (with_reducible refine isO ?_); first
       | refine mvA (h := ?_)
       | refine asA (h := ?_)
       | refine quA (h := ?_)
     | (with_reducible refine isG ?_); first
       | refine stA (h := ?_)
       | refine srA (h := ?_)
       | refine swA (h := ?_)
       | refine s1A (h := ?_)
       | refine s0A (h := ?_)
       | refine sgA (h1 := fun _ => ?_) (h0 := fun _ => ?_)
       | refine sbA (h1 := fun _ => ?_) (h0 := fun _ => ?_)
     | (with_reducible refine isC ?_); first
       | refine ctA (h := ?_)
       | refine cfA (h := ?_)
       | refine cdA (h1 := fun _ => ?_) (h0 := fun _ => ?_)
       | refine cbA (h1 := fun _ => ?_) (h0 := fun _ => ?_)
     | with_reducible refine Ev.seq ?_
     | with_reducible refine Ev.ops ?_
     | with_reducible refine NxE ?_
     | with_reducible refine BxN ?_
     | with_reducible refine BxX ?_
     | with_reducible refine NxX ?_
     | with_reducible refine NxR ?_
     | with_reducible refine BxR ?_
     | with_reducible refine NxG ?_
     | with_reducible refine BxG ?_
     | with_reducible refine GxR ?_
     | with_reducible refine GxN ?_
     | with_reducible refine GxX ?_
     | with_reducible refine Ev.goto ?_
     | with_reducible refine Ev.block ?_
     | with_reducible refine Ev.skip ?_
     | with_reducible refine Ev.exit ?_
     | with_reducible refine Ev.ret ?_
     | with_reducible refine Ev.label ?_
     | with_reducible refine EvOps.nil ?_
     | with_reducible refine EvPlan.nil ?_
     | (with_reducible refine BxO ?_ ?_; · decide)
     )
    all_goals first
      | (exfalso; omega)
      | (refine ⟨100 - (j + 1), by omega, rfl, j + 1, rfl, by omega, by omega, ?_, ?_, ?_, ?_, ?_, ?_, ?_⟩ <;> simp only [↓evP, ↓tgP, ↓reduceIte, Nat.reduceEqDiff, reduceCtorEq, List.map_cons, List.map_nil, List.nil_append, List.append_nil, List.toList_toArray, c0, c2, c7, c8, c10, c11, c12] <;> first
           | done
           | (rw [keepN_step (by omega), if_neg (fun h => by have e1 := congrArg UInt8.toNat h; have e2 : (10 : UInt8).toNat = 10 := rfl; omega)])
           | rw [keepN_step (by omega), if_pos (UInt8.toNat_inj.1 (by show (note.getD j 0).toNat = 10; omega))]
           | rfl)
      | skip
    all_goals
      generalize hF : keepN note j = F at *
      have hFl : F.length ≤ 100 := by omega
      have hFa : ∀ c ∈ F, c ≠ 10 := hF ▸ keepN_all note j
      refine loopT (fun r t st => ∃ (i : Nat), r = q.natAbs - i ∧ i ≤ q.natAbs ∧ tget t 0 = .str sx ∧ tget t 2 = .str note ∧ tget t 7 = .sl .none (l.map Tok.v) ∧ tget t 8 = .int .i64 0 ∧ tget t 10 = .int .i64 (q.natAbs : Nat) ∧ tget t 11 = .str (35 :: (F ++ [10] ++ blanksB i)) ∧ tget t 13 = .int .i64 i) (n := q.natAbs) ?_ ?_
      · refine ⟨0, by omega, by omega, ?_, ?_, ?_, ?_, ?_, ?_, ?_⟩
        all_goals (simp only [↓evP, ↓tgP, ↓reduceIte, Nat.reduceEqDiff, reduceCtorEq, List.map_cons, List.map_nil, List.nil_append, List.append_nil, List.toList_toArray, c0, c2, c7, c8, c10, c11, c12]; try first | rfl | (simp [blanksB]; done))
      clear c0 c2 c7 c8 c10 c11 c12
      rintro r2 t2 st2 ⟨i, rfl, hi, c0, c2, c7, c8, c10, c11, c13⟩
      have hBl := blanksB_len i
      have hTl : (F ++ [10] ++ blanksB i).length = F.length + 1 + i := by simp [hBl]; omega
      by_cases hiq : i < q.natAbs
      · skip
        have ex := And.intro @c0 (And.intro @c2 (And.intro @c7 (And.intro @c8 (And.intro @c10 (And.intro @c11 (And.intro @c13 (And.intro @bsl (And.intro @lenApp3 (And.intro @tok_refl (And.intro @castE (And.intro @lenTok (And.intro @szTok @zv30))))))))))))
        repeat' (first
         | (with_reducible refine isO ?_); first
           | refine mvA (h := ?_)
           | refine asA (h := ?_)
           | refine quA (h := ?_)
         | (with_reducible refine isG ?_); first
           | refine stA (h := ?_)
           | refine srA (h := ?_)
           | refine swA (h := ?_)
           | refine s1A (h := ?_)
           | refine s0A (h := ?_)
           | refine sgA (h1 := fun _ => ?_) (h0 := fun _ => ?_)
           | refine sbA (h1 := fun _ => ?_) (h0 := fun _ => ?_)
         | (with_reducible refine isC ?_); first
           | refine ctA (h := ?_)
           | refine cfA (h := ?_)
           | refine cdA (h1 := fun _ => ?_) (h0 := fun _ => ?_)
           | refine cbA (h1 := fun _ => ?_) (h0 := fun _ => ?_)
         | with_reducible refine Ev.seq ?_
         | with_reducible refine Ev.ops ?_
         | with_reducible refine NxE ?_
         | with_reducible refine BxN ?_
         | with_reducible refine BxX ?_
         | with_reducible refine NxX ?_
         | with_reducible refine NxR ?_
         | with_reducible refine BxR ?_
         | with_reducible refine NxG ?_
         | with_reducible refine BxG ?_
         | with_reducible refine GxR ?_
         | with_reducible refine GxN ?_
         | with_reducible refine GxX ?_
         | with_reducible refine Ev.goto ?_
         | with_reducible refine Ev.block ?_
         | with_reducible refine Ev.skip ?_
         | with_reducible refine Ev.exit ?_
         | with_reducible refine Ev.ret ?_
         | with_reducible refine Ev.label ?_
         | with_reducible refine EvOps.nil ?_
         | with_reducible refine EvPlan.nil ?_
         | (with_reducible refine BxO ?_ ?_; · decide)
         )
        all_goals first
          | (exfalso; omega)
          | (refine ⟨q.natAbs - (i + 1), by omega, rfl, i + 1, rfl, by omega, ?_, ?_, ?_, ?_, ?_, ?_, ?_⟩ <;> simp only [↓evP, ↓tgP, ↓reduceIte, Nat.reduceEqDiff, reduceCtorEq, List.map_cons, List.map_nil, List.nil_append, List.append_nil, List.toList_toArray, c0, c2, c7, c8, c10, c11, c13] <;> first | done | (simp only [blanksB_step, List.append_assoc]; done) | rfl)
      have hiq : i = q.natAbs := by omega
      have hBa := blanksB_all i
      generalize blanksB i = B at *
      by_cases hbig : F.length + 2 + i + sx.length + 1 > 4096
      · skip
        have ex := And.intro @c0 (And.intro @c2 (And.intro @c7 (And.intro @c8 (And.intro @c10 (And.intro @c11 (And.intro @c13 (And.intro @hTl (And.intro @lenApp3 (And.intro @tok_refl (And.intro @castE (And.intro @lenTok (And.intro @szTok @zv30))))))))))))
        repeat' (first
         | (with_reducible refine isO ?_); first
           | refine mvA (h := ?_)
           | refine asA (h := ?_)
           | refine quA (h := ?_)
         | (with_reducible refine isG ?_); first
           | refine stA (h := ?_)
           | refine srA (h := ?_)
           | refine swA (h := ?_)
           | refine s1A (h := ?_)
           | refine s0A (h := ?_)
           | refine sgA (h1 := fun _ => ?_) (h0 := fun _ => ?_)
           | refine sbA (h1 := fun _ => ?_) (h0 := fun _ => ?_)
         | (with_reducible refine isC ?_); first
           | refine ctA (h := ?_)
           | refine cfA (h := ?_)
           | refine cdA (h1 := fun _ => ?_) (h0 := fun _ => ?_)
           | refine cbA (h1 := fun _ => ?_) (h0 := fun _ => ?_)
         | with_reducible refine Ev.seq ?_
         | with_reducible refine Ev.ops ?_
         | with_reducible refine NxE ?_
         | with_reducible refine BxN ?_
         | with_reducible refine BxX ?_
         | with_reducible refine NxX ?_
         | with_reducible refine NxR ?_
         | with_reducible refine BxR ?_
         | with_reducible refine NxG ?_
         | with_reducible refine BxG ?_
         | with_reducible refine GxR ?_
         | with_reducible refine GxN ?_
         | with_reducible refine GxX ?_
         | with_reducible refine Ev.goto ?_
         | with_reducible refine Ev.block ?_
         | with_reducible refine Ev.skip ?_
         | with_reducible refine Ev.exit ?_
         | with_reducible refine Ev.ret ?_
         | with_reducible refine Ev.label ?_
         | with_reducible refine EvOps.nil ?_
         | with_reducible refine EvPlan.nil ?_
         | (with_reducible refine BxO ?_ ?_; · decide)
         )
        all_goals first
          | (exfalso; omega)
          | refine lfA (rl := [.tmp 6]) rfl (hv := by
      simp only [packV, strip, stripAgg, stripCell, List.map_cons, List.map_nil]
      (first | done | rfl)) (hp := rfl)
      have hT2 : (35 :: F ++ [10] ++ B).length = F.length + 2 + i := by (have e0 : (35 :: F ++ [10] ++ B).length = (F ++ [10] ++ B).length + 1 := rfl); omega
      have hlex := blank_lex hFa hBa (sx := sx) (by omega)
      rw [hT2] at hlex
      rw [hL] at hlex
      obtain ⟨m, hA2, hS⟩ := hlex
      have hml := hS.length
      have htok : ∀ st, FnS cx 7 [.str (35 :: (F ++ [10] ++ B ++ sx ++ [32]))] st (.tup [.sl .none ((m ++ [endTok (F.length + 2 + i + sx.length + 1 : Nat)]).map Tok.v), .int .i64 0, .int .i64 0]) st := fun st => toksX hA2 (by (have e1 : (35 :: F ++ [10] ++ B ++ sx ++ [32]).length = (35 :: F ++ [10] ++ B).length + sx.length + 1 := by (simp; omega)); omega) st
      have hlast := last_tok m (F.length + 2 + i + sx.length + 1)
      have hMpos : 0 < (m ++ [endTok (F.length + 2 + i + sx.length + 1 : Nat)]).length := by simp
      have hsame := fun st => sameS l _ hS hll st
      generalize m ++ [endTok (F.length + 2 + i + sx.length + 1 : Nat)] = M at *
      have ex := And.intro @c0 (And.intro @c2 (And.intro @c7 (And.intro @c8 (And.intro @c10 (And.intro @c11 (And.intro @c13 (And.intro @hTl (And.intro @lenApp3 (And.intro @hlast (And.intro @tok_refl (And.intro @castE (And.intro @lenTok (And.intro @szTok @zv30)))))))))))))
      repeat' (first
       | (with_reducible refine isO ?_); first
         | refine mvA (h := ?_)
         | refine asA (h := ?_)
         | refine quA (h := ?_)
         | refine caA (hc := htok _) (h := ?_)
         | refine caA (hc := hsame _) (h := ?_)
       | (with_reducible refine isG ?_); first
         | refine stA (h := ?_)
         | refine srA (h := ?_)
         | refine swA (h := ?_)
         | refine s1A (h := ?_)
         | refine s0A (h := ?_)
         | refine sgA (h1 := fun _ => ?_) (h0 := fun _ => ?_)
         | refine sbA (h1 := fun _ => ?_) (h0 := fun _ => ?_)
       | (with_reducible refine isC ?_); first
         | refine ctA (h := ?_)
         | refine cfA (h := ?_)
         | refine cdA (h1 := fun _ => ?_) (h0 := fun _ => ?_)
         | refine cbA (h1 := fun _ => ?_) (h0 := fun _ => ?_)
       | with_reducible refine Ev.seq ?_
       | with_reducible refine Ev.ops ?_
       | with_reducible refine NxE ?_
       | with_reducible refine BxN ?_
       | with_reducible refine BxX ?_
       | with_reducible refine NxX ?_
       | with_reducible refine NxR ?_
       | with_reducible refine BxR ?_
       | with_reducible refine NxG ?_
       | with_reducible refine BxG ?_
       | with_reducible refine GxR ?_
       | with_reducible refine GxN ?_
       | with_reducible refine GxX ?_
       | with_reducible refine Ev.goto ?_
       | with_reducible refine Ev.block ?_
       | with_reducible refine Ev.skip ?_
       | with_reducible refine Ev.exit ?_
       | with_reducible refine Ev.ret ?_
       | with_reducible refine Ev.label ?_
       | with_reducible refine EvOps.nil ?_
       | with_reducible refine EvPlan.nil ?_
       | (with_reducible refine BxO ?_ ?_; · decide)
       )
      all_goals first
        | (exfalso; omega)
        | refine lfA (rl := [.tmp 6]) rfl (hv := by
      simp only [packV, strip, stripAgg, stripCell, List.map_cons, List.map_nil]
      first | done | rfl | exact congrArg V.bool (decide_eq_true (by omega)) | exact congrArg V.bool (decide_eq_false (by omega)) | exact congrArg V.bool (decide_eq_decide.2 (by omega))) (hp := rfl)

set_option maxHeartbeats 16000000 in
theorem blanksNo (sx : List UInt8) (hmax : sx.length ≤ 4611686018427387904) (ahead : Int) (hb1 : -9223372036854775808 ≤ ahead) (hb2 : ahead ≤ 9223372036854775807) (note : List UInt8) (hmaxn : note.length ≤ 4611686018427387904) (e p : Nat) (l : List Tok) (hl0 : l = []) (hA : lexA sx = (l, e, p)) (he0 : (e : Int) ≠ 0) (hbad : sx.length ≤ 4096 → ∃ a, lexL sx 0 = .inr a) (st : St) :
    FnS cx 3 [.str sx, .int .i64 ahead, .str note] st (.bool true) st := by
  have hq8 := tmod8 ahead
  generalize hq : ahead.tmod 8 = q at *
  refine goP Tryd.func3 rfl rfl rfl rfl ?_ ?_
  · rfl
  intro t ht
  have a0 : tget t 0 = .str sx := ht 0 _ rfl
  have a1 : tget t 1 = .int .i64 ahead := ht 1 _ rfl
  have a2 : tget t 2 = .str note := ht 2 _ rfl
  clear ht
  have ex := And.intro @a0 (And.intro @a1 (And.intro @a2 (And.intro @hq (And.intro @tok_refl (And.intro @castE (And.intro @lenTok (And.intro @szTok @zv30)))))))
  repeat' (first
   | (with_reducible refine isO ?_); first
     | refine mvA (h := ?_)
     | refine asA (h := ?_)
     | refine quA (h := ?_)
     | refine caA (hc := toksX hA hmax _) (h := ?_)
     | refine caA (hc := livesS _) (h := ?_)
   | (with_reducible refine isG ?_); first
     | refine stA (h := ?_)
     | refine srA (h := ?_)
     | refine swA (h := ?_)
     | refine s1A (h := ?_)
     | refine s0A (h := ?_)
     | refine sgA (h1 := fun _ => ?_) (h0 := fun _ => ?_)
     | refine sbA (h1 := fun _ => ?_) (h0 := fun _ => ?_)
   | (with_reducible refine isC ?_); first
     | refine ctA (h := ?_)
     | refine cfA (h := ?_)
     | refine cdA (h1 := fun _ => ?_) (h0 := fun _ => ?_)
     | refine cbA (h1 := fun _ => ?_) (h0 := fun _ => ?_)
   | with_reducible refine Ev.seq ?_
   | with_reducible refine Ev.ops ?_
   | with_reducible refine NxE ?_
   | with_reducible refine BxN ?_
   | with_reducible refine BxX ?_
   | with_reducible refine NxX ?_
   | with_reducible refine NxR ?_
   | with_reducible refine BxR ?_
   | with_reducible refine NxG ?_
   | with_reducible refine BxG ?_
   | with_reducible refine GxR ?_
   | with_reducible refine GxN ?_
   | with_reducible refine GxX ?_
   | with_reducible refine Ev.goto ?_
   | with_reducible refine Ev.block ?_
   | with_reducible refine Ev.skip ?_
   | with_reducible refine Ev.exit ?_
   | with_reducible refine Ev.ret ?_
   | with_reducible refine Ev.label ?_
   | with_reducible refine EvOps.nil ?_
   | with_reducible refine EvPlan.nil ?_
   | (with_reducible refine BxO ?_ ?_; · decide)
   )
  all_goals refine loopT (fun r t st => ∃ (j : Nat), r = 100 - j ∧ j ≤ 100 ∧ j ≤ note.length ∧ tget t 0 = .str sx ∧ tget t 2 = .str note ∧ tget t 7 = .sl .none (l.map Tok.v) ∧ tget t 8 = .int .i64 e ∧ tget t 10 = .int .i64 (q.natAbs : Nat) ∧ tget t 11 = .str (35 :: keepN note j) ∧ tget t 12 = .int .i64 j) (n := 100) ?_ ?_
  all_goals first
    | (refine ⟨0, by omega, by omega, by omega, ?_, ?_, ?_, ?_, ?_, ?_, ?_⟩ <;> simp only [↓evP, ↓tgP, ↓reduceIte, Nat.reduceEqDiff, reduceCtorEq, List.map_cons, List.map_nil, List.nil_append, List.append_nil, List.toList_toArray, a0, a1, a2] <;> first | done | rfl | (congr 1; omega))
    | skip
  all_goals
    rintro r t st ⟨j, rfl, hj, hjn, c0, c2, c7, c8, c10, c11, c12⟩
    have hk := keepN_len note j
    have tj : ((j : Int) + 1).toNat = j + 1 := by omega
    have hj256 : (note.getD j 0).toNat < 256 := (note.getD j 0).toNat_lt
    have ex := And.intro @c0 (And.intro @c2 (And.intro @c7 (And.intro @c8 (And.intro @c10 (And.intro @c11 (And.intro @c12 (And.intro @strAt (And.intro @nsl (And.intro @tj (And.intro @tok_refl (And.intro @castE (And.intro @lenTok (And.intro @szTok @zv30)))))))))))))
    repeat' (first
     | (with_reducible refine isO ?_); first
       | refine mvA (h := ?_)
       | refine asA (h := ?_)
       | refine quA (h := ?_)
     | (with_reducible refine isG ?_); first
       | refine stA (h := ?_)
       | refine srA (h := ?_)
       | refine swA (h := ?_)
       | refine s1A (h := ?_)
       | refine s0A (h := ?_)
       | refine sgA (h1 := fun _ => ?_) (h0 := fun _ => ?_)
       | refine sbA (h1 := fun _ => ?_) (h0 := fun _ => ?_)
     | (with_reducible refine isC ?_); first
       | refine ctA (h := ?_)
       | refine cfA (h := ?_)
       | refine cdA (h1 := fun _ => ?_) (h0 := fun _ => ?_)
       | refine cbA (h1 := fun _ => ?_) (h0 := fun _ => ?_)
     | with_reducible refine Ev.seq ?_
     | with_reducible refine Ev.ops ?_
     | with_reducible refine NxE ?_
     | with_reducible refine BxN ?_
     | with_reducible refine BxX ?_
     | with_reducible refine NxX ?_
     | with_reducible refine NxR ?_
     | with_reducible refine BxR ?_
     | with_reducible refine NxG ?_
     | with_reducible refine BxG ?_
     | with_reducible refine GxR ?_
     | with_reducible refine GxN ?_
     | with_reducible refine GxX ?_
     | with_reducible refine Ev.goto ?_
     | with_reducible refine Ev.block ?_
     | with_reducible refine Ev.skip ?_
     | with_reducible refine Ev.exit ?_
     | with_reducible refine Ev.ret ?_
     | with_reducible refine Ev.label ?_
     | with_reducible refine EvOps.nil ?_
     | with_reducible refine EvPlan.nil ?_
     | (with_reducible refine BxO ?_ ?_; · decide)
     )
    all_goals first
      | (exfalso; omega)
      | (refine ⟨100 - (j + 1), by omega, rfl, j + 1, rfl, by omega, by omega, ?_, ?_, ?_, ?_, ?_, ?_, ?_⟩ <;> simp only [↓evP, ↓tgP, ↓reduceIte, Nat.reduceEqDiff, reduceCtorEq, List.map_cons, List.map_nil, List.nil_append, List.append_nil, List.toList_toArray, c0, c2, c7, c8, c10, c11, c12] <;> first
           | done
           | (rw [keepN_step (by omega), if_neg (fun h => by have e1 := congrArg UInt8.toNat h; have e2 : (10 : UInt8).toNat = 10 := rfl; omega)])
           | rw [keepN_step (by omega), if_pos (UInt8.toNat_inj.1 (by show (note.getD j 0).toNat = 10; omega))]
           | rfl)
      | skip
    all_goals
      generalize hF : keepN note j = F at *
      have hFl : F.length ≤ 100 := by omega
      have hFa : ∀ c ∈ F, c ≠ 10 := hF ▸ keepN_all note j
      refine loopT (fun r t st => ∃ (i : Nat), r = q.natAbs - i ∧ i ≤ q.natAbs ∧ tget t 0 = .str sx ∧ tget t 2 = .str note ∧ tget t 7 = .sl .none (l.map Tok.v) ∧ tget t 8 = .int .i64 e ∧ tget t 10 = .int .i64 (q.natAbs : Nat) ∧ tget t 11 = .str (35 :: (F ++ [10] ++ blanksB i)) ∧ tget t 13 = .int .i64 i) (n := q.natAbs) ?_ ?_
      · refine ⟨0, by omega, by omega, ?_, ?_, ?_, ?_, ?_, ?_, ?_⟩
        all_goals (simp only [↓evP, ↓tgP, ↓reduceIte, Nat.reduceEqDiff, reduceCtorEq, List.map_cons, List.map_nil, List.nil_append, List.append_nil, List.toList_toArray, c0, c2, c7, c8, c10, c11, c12]; try first | rfl | (simp [blanksB]; done))
      clear c0 c2 c7 c8 c10 c11 c12
      rintro r2 t2 st2 ⟨i, rfl, hi, c0, c2, c7, c8, c10, c11, c13⟩
      have hBl := blanksB_len i
      have hTl : (F ++ [10] ++ blanksB i).length = F.length + 1 + i := by simp [hBl]; omega
      by_cases hiq : i < q.natAbs
      · skip
        have ex := And.intro @c0 (And.intro @c2 (And.intro @c7 (And.intro @c8 (And.intro @c10 (And.intro @c11 (And.intro @c13 (And.intro @bsl (And.intro @lenApp3 (And.intro @tok_refl (And.intro @castE (And.intro @lenTok (And.intro @szTok @zv30))))))))))))
        repeat' (first
         | (with_reducible refine isO ?_); first
           | refine mvA (h := ?_)
           | refine asA (h := ?_)
           | refine quA (h := ?_)
         | (with_reducible refine isG ?_); first
           | refine stA (h := ?_)
           | refine srA (h := ?_)
           | refine swA (h := ?_)
           | refine s1A (h := ?_)
           | refine s0A (h := ?_)
           | refine sgA (h1 := fun _ => ?_) (h0 := fun _ => ?_)
           | refine sbA (h1 := fun _ => ?_) (h0 := fun _ => ?_)
         | (with_reducible refine isC ?_); first
           | refine ctA (h := ?_)
           | refine cfA (h := ?_)
           | refine cdA (h1 := fun _ => ?_) (h0 := fun _ => ?_)
           | refine cbA (h1 := fun _ => ?_) (h0 := fun _ => ?_)
         | with_reducible refine Ev.seq ?_
         | with_reducible refine Ev.ops ?_
         | with_reducible refine NxE ?_
         | with_reducible refine BxN ?_
         | with_reducible refine BxX ?_
         | with_reducible refine NxX ?_
         | with_reducible refine NxR ?_
         | with_reducible refine BxR ?_
         | with_reducible refine NxG ?_
         | with_reducible refine BxG ?_
         | with_reducible refine GxR ?_
         | with_reducible refine GxN ?_
         | with_reducible refine GxX ?_
         | with_reducible refine Ev.goto ?_
         | with_reducible refine Ev.block ?_
         | with_reducible refine Ev.skip ?_
         | with_reducible refine Ev.exit ?_
         | with_reducible refine Ev.ret ?_
         | with_reducible refine Ev.label ?_
         | with_reducible refine EvOps.nil ?_
         | with_reducible refine EvPlan.nil ?_
         | (with_reducible refine BxO ?_ ?_; · decide)
         )
        all_goals first
          | (exfalso; omega)
          | (refine ⟨q.natAbs - (i + 1), by omega, rfl, i + 1, rfl, by omega, ?_, ?_, ?_, ?_, ?_, ?_, ?_⟩ <;> simp only [↓evP, ↓tgP, ↓reduceIte, Nat.reduceEqDiff, reduceCtorEq, List.map_cons, List.map_nil, List.nil_append, List.append_nil, List.toList_toArray, c0, c2, c7, c8, c10, c11, c13] <;> first | done | (simp only [blanksB_step, List.append_assoc]; done) | rfl)
      have hiq : i = q.natAbs := by omega
      have hBa := blanksB_all i
      generalize blanksB i = B at *
      by_cases hbig : F.length + 2 + i + sx.length + 1 > 4096
      · skip
        have ex := And.intro @c0 (And.intro @c2 (And.intro @c7 (And.intro @c8 (And.intro @c10 (And.intro @c11 (And.intro @c13 (And.intro @hTl (And.intro @lenApp3 (And.intro @tok_refl (And.intro @castE (And.intro @lenTok (And.intro @szTok @zv30))))))))))))
        repeat' (first
         | (with_reducible refine isO ?_); first
           | refine mvA (h := ?_)
           | refine asA (h := ?_)
           | refine quA (h := ?_)
         | (with_reducible refine isG ?_); first
           | refine stA (h := ?_)
           | refine srA (h := ?_)
           | refine swA (h := ?_)
           | refine s1A (h := ?_)
           | refine s0A (h := ?_)
           | refine sgA (h1 := fun _ => ?_) (h0 := fun _ => ?_)
           | refine sbA (h1 := fun _ => ?_) (h0 := fun _ => ?_)
         | (with_reducible refine isC ?_); first
           | refine ctA (h := ?_)
           | refine cfA (h := ?_)
           | refine cdA (h1 := fun _ => ?_) (h0 := fun _ => ?_)
           | refine cbA (h1 := fun _ => ?_) (h0 := fun _ => ?_)
         | with_reducible refine Ev.seq ?_
         | with_reducible refine Ev.ops ?_
         | with_reducible refine NxE ?_
         | with_reducible refine BxN ?_
         | with_reducible refine BxX ?_
         | with_reducible refine NxX ?_
         | with_reducible refine NxR ?_
         | with_reducible refine BxR ?_
         | with_reducible refine NxG ?_
         | with_reducible refine BxG ?_
         | with_reducible refine GxR ?_
         | with_reducible refine GxN ?_
         | with_reducible refine GxX ?_
         | with_reducible refine Ev.goto ?_
         | with_reducible refine Ev.block ?_
         | with_reducible refine Ev.skip ?_
         | with_reducible refine Ev.exit ?_
         | with_reducible refine Ev.ret ?_
         | with_reducible refine Ev.label ?_
         | with_reducible refine EvOps.nil ?_
         | with_reducible refine EvPlan.nil ?_
         | (with_reducible refine BxO ?_ ?_; · decide)
         )
        all_goals first
          | (exfalso; omega)
          | refine lfA (rl := [.tmp 6]) rfl (hv := by
      simp only [packV, strip, stripAgg, stripCell, List.map_cons, List.map_nil]
      (first | done | rfl)) (hp := rfl)
      obtain ⟨a, hL⟩ := hbad (by omega)
      have hT2 : (35 :: F ++ [10] ++ B).length = F.length + 2 + i := by (have e0 : (35 :: F ++ [10] ++ B).length = (F ++ [10] ++ B).length + 1 := rfl); omega
      have hlex := blank_lex hFa hBa (sx := sx) (by omega)
      rw [hT2] at hlex
      rw [hL] at hlex
      obtain ⟨b, hA2, hb⟩ := hlex
      have hb' : F.length + 2 + i ≤ b := by omega
      have htok : ∀ st, FnS cx 7 [.str (35 :: (F ++ [10] ++ B ++ sx ++ [32]))] st (.tup [.sl .none [], .int .i64 140, .int .i64 b]) st := fun st => toksX hA2 (by (have e1 : (35 :: F ++ [10] ++ B ++ sx ++ [32]).length = (35 :: F ++ [10] ++ B).length + sx.length + 1 := by (simp; omega)); omega) st
      have ex := And.intro @c0 (And.intro @c2 (And.intro @c7 (And.intro @c8 (And.intro @c10 (And.intro @c11 (And.intro @c13 (And.intro @hTl (And.intro @lenApp3 (And.intro @he0 (And.intro @tok_refl (And.intro @castE (And.intro @lenTok (And.intro @szTok @zv30)))))))))))))
      repeat' (first
       | (with_reducible refine isO ?_); first
         | refine mvA (h := ?_)
         | refine asA (h := ?_)
         | refine quA (h := ?_)
         | refine caA (hc := htok _) (h := ?_)
       | (with_reducible refine isG ?_); first
         | refine stA (h := ?_)
         | refine srA (h := ?_)
         | refine swA (h := ?_)
         | refine s1A (h := ?_)
         | refine s0A (h := ?_)
         | refine sgA (h1 := fun _ => ?_) (h0 := fun _ => ?_)
         | refine sbA (h1 := fun _ => ?_) (h0 := fun _ => ?_)
       | (with_reducible refine isC ?_); first
         | refine ctA (h := ?_)
         | refine cfA (h := ?_)
         | refine cdA (h1 := fun _ => ?_) (h0 := fun _ => ?_)
         | refine cbA (h1 := fun _ => ?_) (h0 := fun _ => ?_)
       | with_reducible refine Ev.seq ?_
       | with_reducible refine Ev.ops ?_
       | with_reducible refine NxE ?_
       | with_reducible refine BxN ?_
       | with_reducible refine BxX ?_
       | with_reducible refine NxX ?_
       | with_reducible refine NxR ?_
       | with_reducible refine BxR ?_
       | with_reducible refine NxG ?_
       | with_reducible refine BxG ?_
       | with_reducible refine GxR ?_
       | with_reducible refine GxN ?_
       | with_reducible refine GxX ?_
       | with_reducible refine Ev.goto ?_
       | with_reducible refine Ev.block ?_
       | with_reducible refine Ev.skip ?_
       | with_reducible refine Ev.exit ?_
       | with_reducible refine Ev.ret ?_
       | with_reducible refine Ev.label ?_
       | with_reducible refine EvOps.nil ?_
       | with_reducible refine EvPlan.nil ?_
       | (with_reducible refine BxO ?_ ?_; · decide)
       )
      all_goals first
        | (exfalso; omega)
        | refine lfA (rl := [.tmp 6]) rfl (hv := by
      simp only [packV, strip, stripAgg, stripCell, List.map_cons, List.map_nil]
      first | done | rfl | exact congrArg V.bool (decide_eq_true (by omega)) | exact congrArg V.bool (decide_eq_false (by omega)) | exact congrArg V.bool (decide_eq_decide.2 (by omega))) (hp := rfl)

theorem blanksS (sx : List UInt8) (hmax : sx.length ≤ 4611686018427387904) (ahead : Int) (hb1 : -9223372036854775808 ≤ ahead) (hb2 : ahead ≤ 9223372036854775807) (note : List UInt8) (hmaxn : note.length ≤ 4611686018427387904) (st : St) :
    FnS cx 3 [.str sx, .int .i64 ahead, .str note] st (.bool true) st := by
  cases hL : lexL sx 0 with
  | inl l =>
    by_cases hs : 4096 < sx.length
    · exact blanksNo sx hmax ahead hb1 hb2 note hmaxn 3 0 [] rfl (by unfold lexA; rw [if_pos hs]) (by decide) (fun h => by omega) st
    · obtain ⟨_, m, rfl, hm⟩ := lexR_places sx (sx.length + 1) 0 l (by omega) hL
      exact blanksOk sx hmax ahead hb1 hb2 note hmaxn _ hL (lexA_ok sx hs hL) (by simp; omega) st
  | inr a =>
    by_cases hs : 4096 < sx.length
    · exact blanksNo sx hmax ahead hb1 hb2 note hmaxn 3 0 [] rfl (by unfold lexA; rw [if_pos hs]) (by decide) (fun h => by omega) st
    · exact blanksNo sx hmax ahead hb1 hb2 note hmaxn 140 a [] rfl (lexA_no sx hs hL) (by decide) (fun _ => ⟨a, hL⟩) st
end Go.Proofs.YtmdiieignlidhaaDoor
