/- Tokens. -/
import Derived.Test.YtklcmgodhpediaaGreatDoorN22
import Derived.Test.YtklcmgodhpediaaGreatDoorExLV11
import Derived.Test.YtklcmgodhpediaaGreatDoorExLV12
import Derived.Test.YtklcmgodhpediaaGreatDoorExLP4
set_option linter.unusedSimpArgs false
set_option linter.unusedVariables false
set_option linter.unusedSectionVars false
set_option maxRecDepth 100000
namespace Go.Proofs.YtklcmgodhpediaaGreatDoor.L
open Go Go.Vm Go.Proofs Go.Proofs.YtklcmgodhpediaaGreatDoor

/-! The lexer, from a place of the text on. -/
theorem lexR_fuel : ∀ (f g : Nat) (u : List UInt8) (a : Nat), u.length < f → u.length < g → lexR f u a = lexR g u a := by
  intro f
  induction f with
  | zero => intro g u a h _; omega
  | succ f ih =>
    intro g u a h1 h2
    obtain ⟨g, rfl⟩ : ∃ g', g = g' + 1 := ⟨g - 1, by omega⟩
    cases u with
    | nil => rfl
    | cons c r =>
      simp only [lexR]
      cases hs : stepU c r with
      | bad => rfl
      | skip n =>
        have := stepU_skip hs
        exact ih g _ _ (by simp at h1 ⊢; omega) (by simp at h2 ⊢; omega)
      | tok k n t x =>
        have := stepU_tok hs
        dsimp only
        rw [ih g _ _ (by simp at h1 ⊢; omega) (by simp at h2 ⊢; omega)]
def lexL (sx : List UInt8) (a : Nat) : List Tok ⊕ Nat := lexR (sx.length + 1) (sx.drop a) a
def appL (l : List Tok) : List Tok ⊕ Nat → List Tok ⊕ Nat
  | .inl m => .inl (l ++ m)
  | .inr e => .inr e
theorem appL_nil (r : List Tok ⊕ Nat) : appL [] r = r := by cases r <;> rfl
theorem appL_app (l m : List Tok) (r : List Tok ⊕ Nat) : appL l (appL m r) = appL (l ++ m) r := by cases r <;> simp [appL]
section
variable {sx : List UInt8} {a n : Nat}
theorem lexL_end : lexL sx sx.length = .inl [endTok sx.length] := by unfold lexL; rw [List.drop_length]; rfl
theorem lexL_cons (ha : a < sx.length) : sx.drop a = sx.getD a 0 :: sx.drop (a + 1) := by rw [List.drop_eq_getElem_cons ha]; simp [ha]
theorem lexL_skip (ha : a < sx.length) (h : stepL (sx.drop a) = .skip n) : lexL sx a = lexL sx (a + n) ∧ 1 ≤ n ∧ a + n ≤ sx.length := by
  have hu := lexL_cons ha
  rw [hu] at h
  have hs : stepU (sx.getD a 0) (sx.drop (a + 1)) = .skip n := h
  have hn := stepU_skip hs
  simp only [List.length_drop] at hn
  refine ⟨?_, hn.1, by omega⟩
  unfold lexL
  rw [hu]
  simp only [lexR, hs]
  rw [← hu, List.drop_drop]
  exact lexR_fuel _ _ _ _ (by simp; omega) (by simp; omega)
theorem lexL_tok (ha : a < sx.length) {k x : Nat} {t : List UInt8} (h : stepL (sx.drop a) = .tok k n t x) : lexL sx a = appL [⟨k, t, x, a⟩] (lexL sx (a + n)) ∧ 1 ≤ n ∧ a + n ≤ sx.length := by
  have hu := lexL_cons ha
  rw [hu] at h
  have hs : stepU (sx.getD a 0) (sx.drop (a + 1)) = .tok k n t x := h
  have hn := stepU_tok hs
  simp only [List.length_drop] at hn
  refine ⟨?_, hn.1, by omega⟩
  unfold lexL
  rw [hu]
  simp only [lexR, hs]
  rw [← hu, List.drop_drop, lexR_fuel sx.length (sx.length + 1) _ _ (by simp; omega) (by simp; omega)]
  cases lexR (sx.length + 1) (sx.drop (a + n)) (a + n) <;> rfl
theorem lexL_bad (ha : a < sx.length) (h : stepL (sx.drop a) = .bad) : lexL sx a = .inr a := by
  have hu := lexL_cons ha
  rw [hu] at h
  have hs : stepU (sx.getD a 0) (sx.drop (a + 1)) = .bad := h
  unfold lexL
  rw [hu]
  simp only [lexR, hs]
end
def blankP (c : UInt8) : Prop := c = 32 ∨ c = 9 ∨ c = 10 ∨ c = 13
section
variable {u : List UInt8} {c : UInt8} {r : List UInt8} (hu : u = c :: r)
include hu
theorem st_blank (h : blankP c) : stepL u = .skip 1 := by subst hu; show stepU c r = _; unfold stepU; rw [if_pos (show c = 32 ∨ c = 9 ∨ c = 10 ∨ c = 13 from h)]
theorem st_note (h : c = 35) : stepL u = .skip (spanU lineP u) := by subst hu; subst h; rfl
variable (h1 : ¬ blankP c) (h2 : c ≠ 35)
include h1 h2
theorem st_mac {m : Nat} (hm : macT u = some m) : stepL u = .tok 3 17 (u.take 17) m := by subst hu; show stepU c r = _; unfold stepU; rw [if_neg (show ¬ (c = 32 ∨ c = 9 ∨ c = 10 ∨ c = 13) from h1), if_neg h2, hm]
variable (h3 : macT u = none)
include h3
theorem st_addr {n x : Nat} (hm : addrT u = some (n, x)) : stepL u = .tok 4 n (u.take n) x := by subst hu; show stepU c r = _; unfold stepU; rw [if_neg (show ¬ (c = 32 ∨ c = 9 ∨ c = 10 ∨ c = 13) from h1), if_neg h2, h3]; dsimp only; rw [hm]
variable (h4 : addrT u = none)
include h4
theorem st_num (hd : digP c.toNat) : stepL u = match numT u with
    | some (n, x) => .tok 2 n (u.take n) x
    | none => .bad := by subst hu; show stepU c r = _; unfold stepU; rw [if_neg (show ¬ (c = 32 ∨ c = 9 ∨ c = 10 ∨ c = 13) from h1), if_neg h2, h3]; dsimp only; rw [h4]; dsimp only; rw [if_pos hd]; rfl
theorem st_name (hd : ¬ digP c.toNat) (hl : letP c.toNat) : stepL u = .tok 1 (spanU nameP u) (u.take (spanU nameP u)) 0 := by subst hu; show stepU c r = _; unfold stepU; rw [if_neg (show ¬ (c = 32 ∨ c = 9 ∨ c = 10 ∨ c = 13) from h1), if_neg h2, h3]; dsimp only; rw [h4]; dsimp only; rw [if_neg hd, if_pos hl]
theorem st_text (hq : c = 34) : stepL u = match quoT u with
    | some n => .tok 6 (n + 2) (r.take n) 0
    | none => .bad := by subst hu; subst hq; show stepU 34 r = _; unfold stepU; rw [if_neg (by decide), if_neg (by decide), h3]; dsimp only; rw [h4]; dsimp only; rw [if_neg (by decide), if_neg (by decide), if_pos rfl]; rfl
theorem st_oper (hd : ¬ digP c.toNat) (hl : ¬ letP c.toNat) (hq : c ≠ 34) : stepL u = match opT u with
    | some o => .tok 5 o.length o 0
    | none => .bad := by subst hu; show stepU c r = _; unfold stepU; rw [if_neg (show ¬ (c = 32 ∨ c = 9 ∨ c = 10 ∨ c = 13) from h1), if_neg h2, h3]; dsimp only; rw [h4]; dsimp only; rw [if_neg hd, if_neg hl, if_neg hq]; rfl
end

/-! The walk. -/
theorem idxX (c : UInt8) (st : St) : FnS cx 44 [.str [32, 9, 10, 13], .int .u8 c.toNat] st (.int .i64 (Lib.indexByte [32, 9, 10, 13] c)) st := knownX (by simp [known])
theorem idx_yes {c : UInt8} (h : blankP c) : 0 ≤ Lib.indexByte [32, 9, 10, 13] c := by rcases h with rfl | rfl | rfl | rfl <;> decide
theorem idx_no : ∀ c : Fin 256, ¬ blankP (UInt8.ofNat c.val) → Lib.indexByte [32, 9, 10, 13] (UInt8.ofNat c.val) < 0 := by unfold blankP; decide +kernel
theorem idxN {c : UInt8} (h : ¬ blankP c) : Lib.indexByte [32, 9, 10, 13] c < 0 := by
  have := idx_no ⟨c.toNat, c.toNat_lt⟩
  simpa using this (by simpa using h)
theorem hsetR {sx : List UInt8} {a b : Int} {k : Nat} {l : List Tok} (hr : RdOk k l) : hset (rd sx a k l) 0 (.cells [.str sx, .int .i64 b, outR k l]) = rd sx b k l := by
  cases l with
  | nil => rfl
  | cons t l =>
    have h0 : (k == 0) = false := by simpa using hr.2 (by simp)
    show hset [(k, .tip 4), (0, _)] 0 _ = _
    simp only [hset, h0]
    rfl
theorem appR {sx : List UInt8} {a : Int} {k : Nat} {l : List Tok} (hr : RdOk k l) {x z w : Int} {y : List UInt8} {tip : Tip} : appendV cx ⟨rd sx a k l, k + 1⟩ 58 (outR k l) (.sl tip [.agg [.int .i64 x, .str y, .int .u64 z, .int .i64 w]]) =
    some (.sl (.own (k + 1)) ((l ++ [Tok.mk x y z w]).map Tok.v), ⟨[(k + 1, .tip 4), (0, .cells [.str sx, .int .i64 a, outR k l])], k + 2⟩) := by
  cases l with
  | nil => exact appF4
  | cons t l => exact appO4 hr.1 (by simp)
def toksV (r : List Tok × Nat × Nat) : V := .tup [.sl .none (r.1.map Tok.v), .int .i64 r.2.1, .int .i64 r.2.2]
theorem pure_toks : ∀ l : List Tok, pureVs (l.map Tok.v) = true
  | [] => rfl
  | t :: l => by
    show (pureV t.v && pureVs (l.map Tok.v)) = true
    rw [pure_toks l]; rfl
theorem pure_toksV (r : List Tok × Nat × Nat) : pureV (toksV r) = true := by
  show (pureVs (r.1.map Tok.v) && (true && (true && true))) = true
  rw [pure_toks]; rfl
section
variable (sx : List UInt8) (hs : ¬ 4096 < sx.length)
include hs
theorem lexA_ok {l : List Tok} (h : lexL sx 0 = .inl l) : lexA sx = (l, 0, 0) := by
  unfold lexA
  rw [if_neg hs]
  have : lexR (sx.length + 1) sx 0 = .inl l := h
  rw [this]
theorem lexA_no {a : Nat} (h : lexL sx 0 = .inr a) : lexA sx = ([], 140, a) := by
  unfold lexA
  rw [if_neg hs]
  have : lexR (sx.length + 1) sx 0 = .inr a := h
  rw [this]
end

set_option maxHeartbeats 16000000 in
theorem tokS (sx : List UInt8) (hmax : sx.length ≤ 4611686018427387904) (st : St) : FnS cx 26 [.str sx] st (toksV (lexA sx)) st := by
  have hA : 4096 < sx.length → lexA sx = ([], 3, 0) := fun h => by unfold lexA; rw [if_pos h]
  refine goP Tryz.func26 rfl rfl rfl rfl ?_ ?_
  · rfl
  intro t ht
  have a0 : tget t 0 = .str sx := ht 0 _ rfl
  clear ht
  have ex := And.intro @a0 @hmax
  repeat' (first
   | (with_reducible refine isO ?_); first | refine mvA (h := ?_) | refine asA (h := ?_) | refine quA (h := ?_) | refine wnA (h := ?_) | refine waA (h := ?_)
   | (with_reducible refine isG ?_); first | refine stA (h := ?_) | refine srA (h := ?_) | refine swA (h := ?_) | refine s1A (h := ?_) | refine s0A (h := ?_) | refine sgA (h1 := fun _ => ?_) (h0 := fun _ => ?_) | refine sbA (h1 := fun _ => ?_) (h0 := fun _ => ?_)
   | (with_reducible refine isC ?_); first | refine ctA (h := ?_) | refine cfA (h := ?_) | refine cdA (h1 := fun _ => ?_) (h0 := fun _ => ?_) | refine cbA (h1 := fun _ => ?_) (h0 := fun _ => ?_)
   | with_reducible refine Ev.seq ?_
   | refine EvL.cons ?_
   | refine EvL.nil ?_
   | with_reducible first | refine Ev.ops ?_ | refine NxE ?_ | refine BxN ?_ | refine BxX ?_ | refine NxX ?_ | refine NxR ?_ | refine BxR ?_ | refine NxG ?_ | refine BxG ?_ | refine GxR ?_ | refine GxN ?_ | refine GxX ?_ | refine Ev.goto ?_ | refine Ev.block ?_ | refine Ev.skip ?_ | refine Ev.exit ?_ | refine Ev.ret ?_ | refine Ev.label ?_ | refine EvOps.nil ?_ | refine EvPlan.nil ?_
   | (with_reducible refine BxO ?_ ?_; · decide)
   | fail
   )
  refine scope_loop (l := 0) (by rfl) (by rfl) (by rfl) (fun n t st => ∃ (a k : Nat) (l : List Tok), n = sx.length - a ∧ (a ≤ sx.length ∧ ¬ 4096 < sx.length) ∧ RdOk k l ∧ l.length ≤ a ∧ lexL sx 0 = appL l (lexL sx a) ∧ tget t 0 = .str sx ∧ tget t 5 = .ptr 0 0 ∧ st = ⟨rd sx a k l, k + 1⟩) ?_ ?_
  · skip
    have ex := And.intro @a0 @hmax
    repeat' (first
     | (with_reducible refine isO ?_); first | refine mvA (h := ?_) | refine asA (h := ?_) | refine quA (h := ?_) | refine wnA (h := ?_) | refine waA (h := ?_)
     | (with_reducible refine isG ?_); first | refine stA (h := ?_) | refine srA (h := ?_) | refine swA (h := ?_) | refine s1A (h := ?_) | refine s0A (h := ?_) | refine sgA (h1 := fun _ => ?_) (h0 := fun _ => ?_) | refine sbA (h1 := fun _ => ?_) (h0 := fun _ => ?_)
     | (with_reducible refine isC ?_); first | refine ctA (h := ?_) | refine cfA (h := ?_) | refine cdA (h1 := fun _ => ?_) (h0 := fun _ => ?_) | refine cbA (h1 := fun _ => ?_) (h0 := fun _ => ?_)
     | with_reducible refine Ev.seq ?_
     | refine EvL.cons ?_
     | refine EvL.nil ?_
     | with_reducible first | refine Ev.ops ?_ | refine NxE ?_ | refine BxN ?_ | refine BxX ?_ | refine NxX ?_ | refine NxR ?_ | refine BxR ?_ | refine NxG ?_ | refine BxG ?_ | refine GxR ?_ | refine GxN ?_ | refine GxX ?_ | refine Ev.goto ?_ | refine Ev.block ?_ | refine Ev.skip ?_ | refine Ev.exit ?_ | refine Ev.ret ?_ | refine Ev.label ?_ | refine EvOps.nil ?_ | refine EvPlan.nil ?_
     | (with_reducible refine BxO ?_ ?_; · decide)
     | fail
     )
    all_goals first
      | refine lfA (rl := [.tmp 2, .tmp 3, .tmp 4]) rfl (hv := by
      simp only [packV, strip, stripAgg, stripCell, List.map_cons, List.map_nil]
      (rw [hA (by omega)]; first | done | rfl)) (hp := (pure_toksV _))
      | (refine ⟨rfl, _, 0, 0, [], rfl, ⟨by omega, by omega⟩, ⟨by simp, by simp⟩, by simp, by rw [appL_nil], ?_, ?_, rfl⟩ <;> simp only [↓evP, ↓tgP, ↓reduceIte, Nat.reduceEqDiff, reduceCtorEq, List.map_cons, List.map_nil, List.nil_append, List.append_nil, List.toList_toArray, a0] <;> first | done | rfl)
  rintro n t st ⟨a, k, l, rfl, ⟨ha, hs⟩, hr, hla, he, c0, c5, rfl⟩ ih
  have hl : l.length < 1000000 := by omega
  have hs4 : sx.length ≤ 4096 := by omega
  have hg := rd_get (sx := sx) (a := (a : Int)) hr
  have hd := rd_drop sx (a : Int) k l
  have hsetH := fun (b : Int) => hsetR (sx := sx) (a := (a : Int)) (b := b) hr
  have appH := fun (x z w : Int) (y : List UInt8) (tip : Tip) => appR (sx := sx) (a := (a : Int)) hr (x := x) (z := z) (w := w) (y := y) (tip := tip)
  by_cases hend : a = sx.length
  · have hF : lexL sx 0 = .inl (l ++ [endTok sx.length]) := by rw [he, hend, lexL_end]; rfl
    have ex := And.intro @c0 (And.intro @c5 (And.intro @hg (And.intro @strAt (And.intro @hsetH (And.intro @bs4 @appH)))))
    repeat' (first
     | (with_reducible refine isO ?_); first | refine mvA (h := ?_) | refine asA (h := ?_) | refine quA (h := ?_) | refine wnA (h := ?_) | refine waA (h := ?_)
     | (with_reducible refine isG ?_); first | refine stA (h := ?_) | refine srA (h := ?_) | refine swA (h := ?_) | refine s1A (h := ?_) | refine s0A (h := ?_) | refine sgA (h1 := fun _ => ?_) (h0 := fun _ => ?_) | refine sbA (h1 := fun _ => ?_) (h0 := fun _ => ?_)
     | (with_reducible refine isC ?_); first | refine ctA (h := ?_) | refine cfA (h := ?_) | refine cdA (h1 := fun _ => ?_) (h0 := fun _ => ?_) | refine cbA (h1 := fun _ => ?_) (h0 := fun _ => ?_)
     | with_reducible refine Ev.seq ?_
     | refine EvL.cons ?_
     | refine EvL.nil ?_
     | with_reducible first | refine Ev.ops ?_ | refine NxE ?_ | refine BxN ?_ | refine BxX ?_ | refine NxX ?_ | refine NxR ?_ | refine BxR ?_ | refine NxG ?_ | refine BxG ?_ | refine GxR ?_ | refine GxN ?_ | refine GxX ?_ | refine Ev.goto ?_ | refine Ev.block ?_ | refine Ev.skip ?_ | refine Ev.exit ?_ | refine Ev.ret ?_ | refine Ev.label ?_ | refine EvOps.nil ?_ | refine EvPlan.nil ?_
     | (with_reducible refine BxO ?_ ?_; · decide)
     | refine GxJ (by rfl) (ih _ _ ?_)
     )
    all_goals first
      | (exfalso; omega)
      | refine lfA (rl := [.tmp 2, .tmp 3, .tmp 4]) rfl (hv := by
      simp only [packV, strip, stripAgg, stripCell, List.map_cons, List.map_nil]
      (rw [lexA_ok sx hs hF]; first | done | rfl)) (hp := (pure_toksV _))
  have hal : a < sx.length := by omega
  have hu := lexL_cons hal
  have hc256 : (sx.getD a 0).toNat < 256 := (sx.getD a 0).toNat_lt
  have hspan : ∀ {f : Nat} {p : Int → Prop} [DecidablePred p] (hp : ∀ c st, FnS cx f [.int .u8 c] st (.bool (decide (p c))) st) (i : Nat) (st' : St), i ≤ 1000000 → st' = (⟨rd sx a k l, k + 1⟩ : St) → FnS cx 45 [.ptr 0 0, .int .i64 i, .func (.func f) [] []] st' (.int .i64 (spanU p (sx.drop i))) st' := fun {f p} _ hp i st' hi e => by
    subst e
    exact spanS hp sx (by omega) (.int .i64 (a : Int)) (outR k l) (rd sx a k l) (k + 1) hg hd i hi
  have goSkip : ∀ n, stepL (sx.drop a) = .skip n → 1 ≤ n ∧ a + n ≤ sx.length ∧ lexL sx 0 = appL l (lexL sx (a + n)) := fun n h => by
    have := lexL_skip hal h
    exact ⟨this.2.1, this.2.2, by rw [he, this.1]⟩
  have goTok : ∀ kd n tx x, stepL (sx.drop a) = .tok kd n tx x → 1 ≤ n ∧ a + n ≤ sx.length ∧ lexL sx 0 = appL (l ++ [⟨kd, tx, x, a⟩]) (lexL sx (a + n)) := fun kd n tx x h => by
    have := lexL_tok hal h
    exact ⟨this.2.1, this.2.2, by rw [he, this.1, appL_app]⟩
  have goBad : stepL (sx.drop a) = .bad → lexL sx 0 = .inr a := fun h => by rw [he, lexL_bad hal h]; rfl
  have hrn : ∀ tk, RdOk (k + 1) (l ++ [tk]) := fun tk => hr.next hl tk
  by_cases hB : blankP (sx.getD a 0)
  · have hix := idx_yes hB
    obtain ⟨g1, g2, g3⟩ := goSkip 1 (st_blank hu hB)
    have ex := And.intro @c0 (And.intro @c5 (And.intro @hg (And.intro @strAt (And.intro @hsetH (And.intro @bs4 @appH)))))
    repeat' (first
     | (with_reducible refine isO ?_); first | refine mvA (h := ?_) | refine asA (h := ?_) | refine quA (h := ?_) | refine wnA (h := ?_) | refine waA (h := ?_) | refine caA (hc := idxX _ _) (h := ?_)
     | (with_reducible refine isG ?_); first | refine stA (h := ?_) | refine srA (h := ?_) | refine swA (h := ?_) | refine s1A (h := ?_) | refine s0A (h := ?_) | refine sgA (h1 := fun _ => ?_) (h0 := fun _ => ?_) | refine sbA (h1 := fun _ => ?_) (h0 := fun _ => ?_)
     | (with_reducible refine isC ?_); first | refine ctA (h := ?_) | refine cfA (h := ?_) | refine cdA (h1 := fun _ => ?_) (h0 := fun _ => ?_) | refine cbA (h1 := fun _ => ?_) (h0 := fun _ => ?_)
     | with_reducible refine Ev.seq ?_
     | refine EvL.cons ?_
     | refine EvL.nil ?_
     | with_reducible first | refine Ev.ops ?_ | refine NxE ?_ | refine BxN ?_ | refine BxX ?_ | refine NxX ?_ | refine NxR ?_ | refine BxR ?_ | refine NxG ?_ | refine BxG ?_ | refine GxR ?_ | refine GxN ?_ | refine GxX ?_ | refine Ev.goto ?_ | refine Ev.block ?_ | refine Ev.skip ?_ | refine Ev.exit ?_ | refine Ev.ret ?_ | refine Ev.label ?_ | refine EvOps.nil ?_ | refine EvPlan.nil ?_
     | (with_reducible refine BxO ?_ ?_; · decide)
     | refine GxJ (by rfl) (ih _ _ ?_)
     )
    all_goals first
      | (exfalso; omega)
      | (refine ⟨sx.length - (a + 1), by omega, a + 1, k, l, rfl, ⟨by omega, hs⟩, hr, by omega, g3, ?_, ?_, rfl⟩ <;> simp only [↓evP, ↓tgP, ↓reduceIte, Nat.reduceEqDiff, reduceCtorEq, List.map_cons, List.map_nil, List.nil_append, List.append_nil, List.toList_toArray, c0, c5] <;> first | done | rfl)
  have hix := idxN hB
  by_cases hN : sx.getD a 0 = 35
  · have h35 : ((sx.getD a 0).toNat : Int) = 35 := by rw [hN]; rfl
    obtain ⟨g1, g2, g3⟩ := goSkip _ (st_note hu hN)
    have hsp := fun st' e => hspan (p := lineP) (fun c st => lineS c st) a st' (by omega) e
    have ex := And.intro @c0 (And.intro @c5 (And.intro @hg (And.intro @strAt (And.intro @hsetH (And.intro @bs4 @appH)))))
    repeat' (first
     | (with_reducible refine isO ?_); first | refine mvA (h := ?_) | refine asA (h := ?_) | refine quA (h := ?_) | refine wnA (h := ?_) | refine waA (h := ?_) | refine caA (hc := idxX _ _) (h := ?_) | refine caA (hc := hsp _ rfl) (h := ?_)
     | (with_reducible refine isG ?_); first | refine stA (h := ?_) | refine srA (h := ?_) | refine swA (h := ?_) | refine s1A (h := ?_) | refine s0A (h := ?_) | refine sgA (h1 := fun _ => ?_) (h0 := fun _ => ?_) | refine sbA (h1 := fun _ => ?_) (h0 := fun _ => ?_)
     | (with_reducible refine isP ?_); first | refine dqA (h := ?_) | refine dcA (i := 9) (l := [3]) (hc := hsp _ rfl) (h := ?_) | refine dnA (i := 13) (l := []) (h := ?_)
     | (with_reducible refine isC ?_); first | refine ctA (h := ?_) | refine cfA (h := ?_) | refine cdA (h1 := fun _ => ?_) (h0 := fun _ => ?_) | refine cbA (h1 := fun _ => ?_) (h0 := fun _ => ?_)
     | (with_reducible refine isR ?_); first
       | refine Ev.drawn (by decide +kernel) (l := [0, 1, 2, 3, 4, 5, 6, 7, 8, 9, 10, 11, 12, 13]) (by decide +kernel) ?_
     | with_reducible refine Ev.seq ?_
     | refine EvL.cons ?_
     | refine EvL.nil ?_
     | with_reducible first | refine Ev.ops ?_ | refine NxE ?_ | refine BxN ?_ | refine BxX ?_ | refine NxX ?_ | refine NxR ?_ | refine BxR ?_ | refine NxG ?_ | refine BxG ?_ | refine GxR ?_ | refine GxN ?_ | refine GxX ?_ | refine Ev.goto ?_ | refine Ev.block ?_ | refine Ev.skip ?_ | refine Ev.exit ?_ | refine Ev.ret ?_ | refine Ev.label ?_ | refine EvOps.nil ?_ | refine EvPlan.nil ?_
     | (with_reducible refine BxO ?_ ?_; · decide)
     | refine GxJ (by rfl) (ih _ _ ?_)
     )
    all_goals first
      | (exfalso; omega)
      | (refine ⟨sx.length - (a + spanU lineP (sx.drop a)), by omega, a + spanU lineP (sx.drop a), k, l, rfl, ⟨by omega, hs⟩, hr, by omega, g3, ?_, ?_, rfl⟩ <;> simp only [↓evP, ↓tgP, ↓reduceIte, Nat.reduceEqDiff, reduceCtorEq, List.map_cons, List.map_nil, List.nil_append, List.append_nil, List.toList_toArray, c0, c5] <;> first | done | rfl)
  have h35 : ¬ ((sx.getD a 0).toNat : Int) = 35 := fun h => hN (UInt8.toNat_inj.1 (by show (sx.getD a 0).toNat = 35; omega))
  cases hM : macT (sx.drop a) with
  | some m =>
    obtain ⟨g1, g2, g3⟩ := goTok _ _ _ _ (st_mac hu hB hN hM)
    have hmac := macM1 sx hs4 a k ha l hr hl m hM
    have ex := And.intro @c0 (And.intro @c5 (And.intro @hg (And.intro @strAt (And.intro @hsetH (And.intro @bs4 @appH)))))
    repeat' (first
     | (with_reducible refine isO ?_); first | refine mvA (h := ?_) | refine asA (h := ?_) | refine quA (h := ?_) | refine wnA (h := ?_) | refine waA (h := ?_) | refine caA (hc := idxX _ _) (h := ?_) | refine caA (hc := hmac) (h := ?_)
     | (with_reducible refine isG ?_); first | refine stA (h := ?_) | refine srA (h := ?_) | refine swA (h := ?_) | refine s1A (h := ?_) | refine s0A (h := ?_) | refine sgA (h1 := fun _ => ?_) (h0 := fun _ => ?_) | refine sbA (h1 := fun _ => ?_) (h0 := fun _ => ?_)
     | (with_reducible refine isC ?_); first | refine ctA (h := ?_) | refine cfA (h := ?_) | refine cdA (h1 := fun _ => ?_) (h0 := fun _ => ?_) | refine cbA (h1 := fun _ => ?_) (h0 := fun _ => ?_)
     | with_reducible refine Ev.seq ?_
     | refine EvL.cons ?_
     | refine EvL.nil ?_
     | with_reducible first | refine Ev.ops ?_ | refine NxE ?_ | refine BxN ?_ | refine BxX ?_ | refine NxX ?_ | refine NxR ?_ | refine BxR ?_ | refine NxG ?_ | refine BxG ?_ | refine GxR ?_ | refine GxN ?_ | refine GxX ?_ | refine Ev.goto ?_ | refine Ev.block ?_ | refine Ev.skip ?_ | refine Ev.exit ?_ | refine Ev.ret ?_ | refine Ev.label ?_ | refine EvOps.nil ?_ | refine EvPlan.nil ?_
     | (with_reducible refine BxO ?_ ?_; · decide)
     | refine GxJ (by rfl) (ih _ _ ?_)
     )
    all_goals first
      | (exfalso; omega)
      | (refine ⟨sx.length - (a + 17), by omega, a + 17, k + 1, l ++ [⟨3, (sx.drop a).take 17, m, a⟩], rfl, ⟨by omega, hs⟩, hrn _, by simp; omega, g3, ?_, ?_, rfl⟩ <;> simp only [↓evP, ↓tgP, ↓reduceIte, Nat.reduceEqDiff, reduceCtorEq, List.map_cons, List.map_nil, List.nil_append, List.append_nil, List.toList_toArray, c0, c5] <;> first | done | rfl)
  | none =>
  have hmac := macM0 sx hs4 a k ha l hr hl hM
  have hadr := addrM sx hs4 a k ha l hr hl
  cases hD : addrT (sx.drop a) with
  | some nx =>
    obtain ⟨n, x⟩ := nx
    rw [hD] at hadr
    have hadr : FnS cx 48 [.ptr 0 0] ⟨rd sx a k l, k + 1⟩ (.bool true) ⟨rd sx ((a : Int) + n) (k + 1) (l ++ [⟨4, (sx.drop a).take n, x, a⟩]), k + 2⟩ := hadr
    obtain ⟨g1, g2, g3⟩ := goTok _ _ _ _ (st_addr hu hB hN hM hD)
    have ex := And.intro @c0 (And.intro @c5 (And.intro @hg (And.intro @strAt (And.intro @hsetH (And.intro @bs4 @appH)))))
    repeat' (first
     | (with_reducible refine isO ?_); first | refine mvA (h := ?_) | refine asA (h := ?_) | refine quA (h := ?_) | refine wnA (h := ?_) | refine waA (h := ?_) | refine caA (hc := idxX _ _) (h := ?_) | refine caA (hc := hmac) (h := ?_) | refine caA (hc := hadr) (h := ?_)
     | (with_reducible refine isG ?_); first | refine stA (h := ?_) | refine srA (h := ?_) | refine swA (h := ?_) | refine s1A (h := ?_) | refine s0A (h := ?_) | refine sgA (h1 := fun _ => ?_) (h0 := fun _ => ?_) | refine sbA (h1 := fun _ => ?_) (h0 := fun _ => ?_)
     | (with_reducible refine isC ?_); first | refine ctA (h := ?_) | refine cfA (h := ?_) | refine cdA (h1 := fun _ => ?_) (h0 := fun _ => ?_) | refine cbA (h1 := fun _ => ?_) (h0 := fun _ => ?_)
     | with_reducible refine Ev.seq ?_
     | refine EvL.cons ?_
     | refine EvL.nil ?_
     | with_reducible first | refine Ev.ops ?_ | refine NxE ?_ | refine BxN ?_ | refine BxX ?_ | refine NxX ?_ | refine NxR ?_ | refine BxR ?_ | refine NxG ?_ | refine BxG ?_ | refine GxR ?_ | refine GxN ?_ | refine GxX ?_ | refine Ev.goto ?_ | refine Ev.block ?_ | refine Ev.skip ?_ | refine Ev.exit ?_ | refine Ev.ret ?_ | refine Ev.label ?_ | refine EvOps.nil ?_ | refine EvPlan.nil ?_
     | (with_reducible refine BxO ?_ ?_; · decide)
     | refine GxJ (by rfl) (ih _ _ ?_)
     )
    all_goals first
      | (exfalso; omega)
      | (refine ⟨sx.length - (a + n), by omega, a + n, k + 1, l ++ [⟨4, (sx.drop a).take n, x, a⟩], rfl, ⟨by omega, hs⟩, hrn _, by simp; omega, g3, ?_, ?_, rfl⟩ <;> simp only [↓evP, ↓tgP, ↓reduceIte, Nat.reduceEqDiff, reduceCtorEq, List.map_cons, List.map_nil, List.nil_append, List.append_nil, List.toList_toArray, c0, c5] <;> first | done | rfl)
  | none =>
  rw [hD] at hadr
  have hadr : FnS cx 48 [.ptr 0 0] ⟨rd sx a k l, k + 1⟩ (.bool false) ⟨rd sx a k l, k + 1⟩ := hadr
  have dig1 : ∀ st, FnS cx 49 [.int .u8 (sx.getD a 0).toNat] st (.bool (decide (digP (sx.getD a 0).toNat))) st := fun st => digitS _ st
  have let1 : ∀ st, FnS cx 51 [.int .u8 (sx.getD a 0).toNat] st (.bool (decide (letP (sx.getD a 0).toNat))) st := fun st => letterS _ st
  by_cases hdg : digP (sx.getD a 0).toNat
  · rw [decide_eq_true hdg] at dig1
    have hnum := numM sx hs4 a k hal l hr hl
    have hst := st_num hu hB hN hM hD hdg
    cases hQ : numT (sx.drop a) with
    | some nx =>
      obtain ⟨n, x⟩ := nx
      rw [hQ] at hnum hst
      have hnum : FnS cx 50 [.ptr 0 0] ⟨rd sx a k l, k + 1⟩ (.bool true) ⟨rd sx ((a : Int) + n) (k + 1) (l ++ [⟨2, (sx.drop a).take n, x, a⟩]), k + 2⟩ := hnum
      obtain ⟨g1, g2, g3⟩ := goTok _ _ _ _ hst
      have ex := And.intro @c0 (And.intro @c5 (And.intro @hg (And.intro @strAt (And.intro @hsetH (And.intro @bs4 @appH)))))
      repeat' (first
       | (with_reducible refine isO ?_); first | refine mvA (h := ?_) | refine asA (h := ?_) | refine quA (h := ?_) | refine wnA (h := ?_) | refine waA (h := ?_) | refine caA (hc := idxX _ _) (h := ?_) | refine caA (hc := hmac) (h := ?_) | refine caA (hc := hadr) (h := ?_) | refine caA (hc := dig1 _) (h := ?_) | refine caA (hc := hnum) (h := ?_)
       | (with_reducible refine isG ?_); first | refine stA (h := ?_) | refine srA (h := ?_) | refine swA (h := ?_) | refine s1A (h := ?_) | refine s0A (h := ?_) | refine sgA (h1 := fun _ => ?_) (h0 := fun _ => ?_) | refine sbA (h1 := fun _ => ?_) (h0 := fun _ => ?_)
       | (with_reducible refine isC ?_); first | refine ctA (h := ?_) | refine cfA (h := ?_) | refine cdA (h1 := fun _ => ?_) (h0 := fun _ => ?_) | refine cbA (h1 := fun _ => ?_) (h0 := fun _ => ?_)
       | with_reducible refine Ev.seq ?_
       | refine EvL.cons ?_
       | refine EvL.nil ?_
       | with_reducible first | refine Ev.ops ?_ | refine NxE ?_ | refine BxN ?_ | refine BxX ?_ | refine NxX ?_ | refine NxR ?_ | refine BxR ?_ | refine NxG ?_ | refine BxG ?_ | refine GxR ?_ | refine GxN ?_ | refine GxX ?_ | refine Ev.goto ?_ | refine Ev.block ?_ | refine Ev.skip ?_ | refine Ev.exit ?_ | refine Ev.ret ?_ | refine Ev.label ?_ | refine EvOps.nil ?_ | refine EvPlan.nil ?_
       | (with_reducible refine BxO ?_ ?_; · decide)
       | refine GxJ (by rfl) (ih _ _ ?_)
       )
      all_goals first
        | (exfalso; omega)
        | (refine ⟨sx.length - (a + n), by omega, a + n, k + 1, l ++ [⟨2, (sx.drop a).take n, x, a⟩], rfl, ⟨by omega, hs⟩, hrn _, by simp; omega, g3, ?_, ?_, rfl⟩ <;> simp only [↓evP, ↓tgP, ↓reduceIte, Nat.reduceEqDiff, reduceCtorEq, List.map_cons, List.map_nil, List.nil_append, List.append_nil, List.toList_toArray, c0, c5] <;> first | done | rfl)
    | none =>
      rw [hQ] at hnum hst
      have hnum : FnS cx 50 [.ptr 0 0] ⟨rd sx a k l, k + 1⟩ (.bool false) ⟨rd sx a k l, k + 1⟩ := hnum
      have hbad := goBad hst
      have ex := And.intro @c0 (And.intro @c5 (And.intro @hg (And.intro @strAt (And.intro @hsetH (And.intro @bs4 @appH)))))
      repeat' (first
       | (with_reducible refine isO ?_); first | refine mvA (h := ?_) | refine asA (h := ?_) | refine quA (h := ?_) | refine wnA (h := ?_) | refine waA (h := ?_) | refine caA (hc := idxX _ _) (h := ?_) | refine caA (hc := hmac) (h := ?_) | refine caA (hc := hadr) (h := ?_) | refine caA (hc := dig1 _) (h := ?_) | refine caA (hc := hnum) (h := ?_)
       | (with_reducible refine isG ?_); first | refine stA (h := ?_) | refine srA (h := ?_) | refine swA (h := ?_) | refine s1A (h := ?_) | refine s0A (h := ?_) | refine sgA (h1 := fun _ => ?_) (h0 := fun _ => ?_) | refine sbA (h1 := fun _ => ?_) (h0 := fun _ => ?_)
       | (with_reducible refine isP ?_); first | refine dqA (h := ?_)
       | (with_reducible refine isC ?_); first | refine ctA (h := ?_) | refine cfA (h := ?_) | refine cdA (h1 := fun _ => ?_) (h0 := fun _ => ?_) | refine cbA (h1 := fun _ => ?_) (h0 := fun _ => ?_)
       | (with_reducible refine isR ?_); first
         | refine Ev.drawn (by decide +kernel) (l := [0, 1, 2, 3, 4, 5, 6]) (by decide +kernel) ?_
       | with_reducible refine Ev.seq ?_
       | refine EvL.cons ?_
       | refine EvL.nil ?_
       | with_reducible first | refine Ev.ops ?_ | refine NxE ?_ | refine BxN ?_ | refine BxX ?_ | refine NxX ?_ | refine NxR ?_ | refine BxR ?_ | refine NxG ?_ | refine BxG ?_ | refine GxR ?_ | refine GxN ?_ | refine GxX ?_ | refine Ev.goto ?_ | refine Ev.block ?_ | refine Ev.skip ?_ | refine Ev.exit ?_ | refine Ev.ret ?_ | refine Ev.label ?_ | refine EvOps.nil ?_ | refine EvPlan.nil ?_
       | (with_reducible refine BxO ?_ ?_; · decide)
       | refine GxJ (by rfl) (ih _ _ ?_)
       )
      all_goals first
        | (exfalso; omega)
        | refine lfA (rl := [.tmp 2, .tmp 3, .tmp 4]) rfl (hv := by
      simp only [packV, strip, stripAgg, stripCell, List.map_cons, List.map_nil]
      (rw [lexA_no sx hs hbad]; first | done | rfl)) (hp := (pure_toksV _))
  rw [decide_eq_false hdg] at dig1
  by_cases hlt : letP (sx.getD a 0).toNat
  · rw [decide_eq_true hlt] at let1
    have hst := st_name hu hB hN hM hD hdg hlt
    have hsp := fun st' e => hspan (p := nameP) (fun c st => nameS c st) a st' (by omega) e
    have hW := spanU_le (p := nameP) (sx.drop a)
    rw [List.length_drop] at hW
    obtain ⟨g1, g2, g3⟩ := goTok _ _ _ _ hst
    generalize spanU nameP (sx.drop a) = n at *
    have tn : ((a : Int) + (n : Int)).toNat = a + n := by omega
    have en : (sx.take (a + n)).drop a = (sx.drop a).take n := by rw [List.drop_take, Nat.add_sub_cancel_left]
    have ex := And.intro @c0 (And.intro @c5 (And.intro @hg (And.intro @strAt (And.intro @hsetH (And.intro @bs4 (And.intro @appH (And.intro @tn @en)))))))
    repeat' (first
     | (with_reducible refine isO ?_); first | refine mvA (h := ?_) | refine asA (h := ?_) | refine quA (h := ?_) | refine wnA (h := ?_) | refine waA (h := ?_) | refine caA (hc := idxX _ _) (h := ?_) | refine caA (hc := hmac) (h := ?_) | refine caA (hc := hadr) (h := ?_) | refine caA (hc := dig1 _) (h := ?_) | refine caA (hc := let1 _) (h := ?_) | refine caA (hc := hsp _ rfl) (h := ?_)
     | (with_reducible refine isG ?_); first | refine stA (h := ?_) | refine srA (h := ?_) | refine swA (h := ?_) | refine s1A (h := ?_) | refine s0A (h := ?_) | refine sgA (h1 := fun _ => ?_) (h0 := fun _ => ?_) | refine sbA (h1 := fun _ => ?_) (h0 := fun _ => ?_)
     | (with_reducible refine isP ?_); first | refine dqA (h := ?_) | refine dcA (i := 14) (l := []) (hc := takeR sx _ _ _ _ _ k l hr (by omega) (by omega) (by omega) (by omega)) (h := ?_)
     | (with_reducible refine isC ?_); first | refine ctA (h := ?_) | refine cfA (h := ?_) | refine cdA (h1 := fun _ => ?_) (h0 := fun _ => ?_) | refine cbA (h1 := fun _ => ?_) (h0 := fun _ => ?_)
     | (with_reducible refine isR ?_); first
       | refine Ev.drawn (by decide +kernel) (l := [0, 1, 2, 3, 4, 5, 6, 7, 8, 9, 10, 11, 12, 13, 14]) (by decide +kernel) ?_
     | with_reducible refine Ev.seq ?_
     | refine EvL.cons ?_
     | refine EvL.nil ?_
     | with_reducible first | refine Ev.ops ?_ | refine NxE ?_ | refine BxN ?_ | refine BxX ?_ | refine NxX ?_ | refine NxR ?_ | refine BxR ?_ | refine NxG ?_ | refine BxG ?_ | refine GxR ?_ | refine GxN ?_ | refine GxX ?_ | refine Ev.goto ?_ | refine Ev.block ?_ | refine Ev.skip ?_ | refine Ev.exit ?_ | refine Ev.ret ?_ | refine Ev.label ?_ | refine EvOps.nil ?_ | refine EvPlan.nil ?_
     | (with_reducible refine BxO ?_ ?_; · decide)
     | refine GxJ (by rfl) (ih _ _ ?_)
     )
    all_goals first
      | (exfalso; omega)
      | (refine ⟨sx.length - (a + n), by omega, a + n, k + 1, l ++ [⟨1, (sx.drop a).take n, 0, a⟩], rfl, ⟨by omega, hs⟩, hrn _, by simp; omega, g3, ?_, ?_, rfl⟩ <;> simp only [↓evP, ↓tgP, ↓reduceIte, Nat.reduceEqDiff, reduceCtorEq, List.map_cons, List.map_nil, List.nil_append, List.append_nil, List.toList_toArray, c0, c5] <;> first | done | rfl)
  rw [decide_eq_false hlt] at let1
  by_cases hq : sx.getD a 0 = 34
  · have h34 : ((sx.getD a 0).toNat : Int) = 34 := by rw [hq]; rfl
    have hquo := quoM sx hs4 a k hal l hr hl
    have hst := st_text hu hB hN hM hD hq
    cases hQ : quoT (sx.drop a) with
    | some n =>
      rw [hQ] at hquo hst
      have hquo : FnS cx 55 [.ptr 0 0] ⟨rd sx a k l, k + 1⟩ (.bool true) ⟨rd sx ((a : Int) + ((n : Int) + 2)) (k + 1) (l ++ [⟨6, (sx.drop (a + 1)).take n, 0, a⟩]), k + 2⟩ := hquo
      obtain ⟨g1, g2, g3⟩ := goTok _ _ _ _ hst
      have ex := And.intro @c0 (And.intro @c5 (And.intro @hg (And.intro @strAt (And.intro @hsetH (And.intro @bs4 @appH)))))
      repeat' (first
       | (with_reducible refine isO ?_); first | refine mvA (h := ?_) | refine asA (h := ?_) | refine quA (h := ?_) | refine wnA (h := ?_) | refine waA (h := ?_) | refine caA (hc := idxX _ _) (h := ?_) | refine caA (hc := hmac) (h := ?_) | refine caA (hc := hadr) (h := ?_) | refine caA (hc := dig1 _) (h := ?_) | refine caA (hc := let1 _) (h := ?_) | refine caA (hc := hquo) (h := ?_)
       | (with_reducible refine isG ?_); first | refine stA (h := ?_) | refine srA (h := ?_) | refine swA (h := ?_) | refine s1A (h := ?_) | refine s0A (h := ?_) | refine sgA (h1 := fun _ => ?_) (h0 := fun _ => ?_) | refine sbA (h1 := fun _ => ?_) (h0 := fun _ => ?_)
       | (with_reducible refine isC ?_); first | refine ctA (h := ?_) | refine cfA (h := ?_) | refine cdA (h1 := fun _ => ?_) (h0 := fun _ => ?_) | refine cbA (h1 := fun _ => ?_) (h0 := fun _ => ?_)
       | with_reducible refine Ev.seq ?_
       | refine EvL.cons ?_
       | refine EvL.nil ?_
       | with_reducible first | refine Ev.ops ?_ | refine NxE ?_ | refine BxN ?_ | refine BxX ?_ | refine NxX ?_ | refine NxR ?_ | refine BxR ?_ | refine NxG ?_ | refine BxG ?_ | refine GxR ?_ | refine GxN ?_ | refine GxX ?_ | refine Ev.goto ?_ | refine Ev.block ?_ | refine Ev.skip ?_ | refine Ev.exit ?_ | refine Ev.ret ?_ | refine Ev.label ?_ | refine EvOps.nil ?_ | refine EvPlan.nil ?_
       | (with_reducible refine BxO ?_ ?_; · decide)
       | refine GxJ (by rfl) (ih _ _ ?_)
       )
      all_goals first
        | (exfalso; omega)
        | (refine ⟨sx.length - (a + (n + 2)), by omega, a + (n + 2), k + 1, l ++ [⟨6, (sx.drop (a + 1)).take n, 0, a⟩], rfl, ⟨by omega, hs⟩, hrn _, by simp; omega, g3, ?_, ?_, rfl⟩ <;> simp only [↓evP, ↓tgP, ↓reduceIte, Nat.reduceEqDiff, reduceCtorEq, List.map_cons, List.map_nil, List.nil_append, List.append_nil, List.toList_toArray, c0, c5] <;> first | done | rfl)
    | none =>
      rw [hQ] at hquo hst
      have hquo : FnS cx 55 [.ptr 0 0] ⟨rd sx a k l, k + 1⟩ (.bool false) ⟨rd sx a k l, k + 1⟩ := hquo
      have hbad := goBad hst
      have ex := And.intro @c0 (And.intro @c5 (And.intro @hg (And.intro @strAt (And.intro @hsetH (And.intro @bs4 @appH)))))
      repeat' (first
       | (with_reducible refine isO ?_); first | refine mvA (h := ?_) | refine asA (h := ?_) | refine quA (h := ?_) | refine wnA (h := ?_) | refine waA (h := ?_) | refine caA (hc := idxX _ _) (h := ?_) | refine caA (hc := hmac) (h := ?_) | refine caA (hc := hadr) (h := ?_) | refine caA (hc := dig1 _) (h := ?_) | refine caA (hc := let1 _) (h := ?_) | refine caA (hc := hquo) (h := ?_)
       | (with_reducible refine isG ?_); first | refine stA (h := ?_) | refine srA (h := ?_) | refine swA (h := ?_) | refine s1A (h := ?_) | refine s0A (h := ?_) | refine sgA (h1 := fun _ => ?_) (h0 := fun _ => ?_) | refine sbA (h1 := fun _ => ?_) (h0 := fun _ => ?_)
       | (with_reducible refine isP ?_); first | refine dqA (h := ?_)
       | (with_reducible refine isC ?_); first | refine ctA (h := ?_) | refine cfA (h := ?_) | refine cdA (h1 := fun _ => ?_) (h0 := fun _ => ?_) | refine cbA (h1 := fun _ => ?_) (h0 := fun _ => ?_)
       | (with_reducible refine isR ?_); first
         | refine Ev.drawn (by decide +kernel) (l := [0, 1, 2, 3, 4, 5, 6]) (by decide +kernel) ?_
       | with_reducible refine Ev.seq ?_
       | refine EvL.cons ?_
       | refine EvL.nil ?_
       | with_reducible first | refine Ev.ops ?_ | refine NxE ?_ | refine BxN ?_ | refine BxX ?_ | refine NxX ?_ | refine NxR ?_ | refine BxR ?_ | refine NxG ?_ | refine BxG ?_ | refine GxR ?_ | refine GxN ?_ | refine GxX ?_ | refine Ev.goto ?_ | refine Ev.block ?_ | refine Ev.skip ?_ | refine Ev.exit ?_ | refine Ev.ret ?_ | refine Ev.label ?_ | refine EvOps.nil ?_ | refine EvPlan.nil ?_
       | (with_reducible refine BxO ?_ ?_; · decide)
       | refine GxJ (by rfl) (ih _ _ ?_)
       )
      all_goals first
        | (exfalso; omega)
        | refine lfA (rl := [.tmp 2, .tmp 3, .tmp 4]) rfl (hv := by
      simp only [packV, strip, stripAgg, stripCell, List.map_cons, List.map_nil]
      (rw [lexA_no sx hs hbad]; first | done | rfl)) (hp := (pure_toksV _))
  have h34 : ¬ ((sx.getD a 0).toNat : Int) = 34 := fun h => hq (UInt8.toNat_inj.1 (by show (sx.getD a 0).toNat = 34; omega))
  have hop := opM sx hs4 a k hal l hr hl
  have hst := st_oper hu hB hN hM hD hdg hlt hq
  cases hQ : opT (sx.drop a) with
  | some op =>
    rw [hQ] at hop hst
    have hop : FnS cx 56 [.ptr 0 0] ⟨rd sx a k l, k + 1⟩ (.bool true) ⟨rd sx ((a : Int) + (op.length : Int)) (k + 1) (l ++ [⟨5, op, 0, a⟩]), k + 2⟩ := hop
    obtain ⟨g1, g2, g3⟩ := goTok _ _ _ _ hst
    have ex := And.intro @c0 (And.intro @c5 (And.intro @hg (And.intro @strAt (And.intro @hsetH (And.intro @bs4 @appH)))))
    repeat' (first
     | (with_reducible refine isO ?_); first | refine mvA (h := ?_) | refine asA (h := ?_) | refine quA (h := ?_) | refine wnA (h := ?_) | refine waA (h := ?_) | refine caA (hc := idxX _ _) (h := ?_) | refine caA (hc := hmac) (h := ?_) | refine caA (hc := hadr) (h := ?_) | refine caA (hc := dig1 _) (h := ?_) | refine caA (hc := let1 _) (h := ?_) | refine caA (hc := hop) (h := ?_)
     | (with_reducible refine isG ?_); first | refine stA (h := ?_) | refine srA (h := ?_) | refine swA (h := ?_) | refine s1A (h := ?_) | refine s0A (h := ?_) | refine sgA (h1 := fun _ => ?_) (h0 := fun _ => ?_) | refine sbA (h1 := fun _ => ?_) (h0 := fun _ => ?_)
     | (with_reducible refine isC ?_); first | refine ctA (h := ?_) | refine cfA (h := ?_) | refine cdA (h1 := fun _ => ?_) (h0 := fun _ => ?_) | refine cbA (h1 := fun _ => ?_) (h0 := fun _ => ?_)
     | with_reducible refine Ev.seq ?_
     | refine EvL.cons ?_
     | refine EvL.nil ?_
     | with_reducible first | refine Ev.ops ?_ | refine NxE ?_ | refine BxN ?_ | refine BxX ?_ | refine NxX ?_ | refine NxR ?_ | refine BxR ?_ | refine NxG ?_ | refine BxG ?_ | refine GxR ?_ | refine GxN ?_ | refine GxX ?_ | refine Ev.goto ?_ | refine Ev.block ?_ | refine Ev.skip ?_ | refine Ev.exit ?_ | refine Ev.ret ?_ | refine Ev.label ?_ | refine EvOps.nil ?_ | refine EvPlan.nil ?_
     | (with_reducible refine BxO ?_ ?_; · decide)
     | refine GxJ (by rfl) (ih _ _ ?_)
     )
    all_goals first
      | (exfalso; omega)
      | (refine ⟨sx.length - (a + op.length), by omega, a + op.length, k + 1, l ++ [⟨5, op, 0, a⟩], rfl, ⟨by omega, hs⟩, hrn _, by simp; omega, g3, ?_, ?_, rfl⟩ <;> simp only [↓evP, ↓tgP, ↓reduceIte, Nat.reduceEqDiff, reduceCtorEq, List.map_cons, List.map_nil, List.nil_append, List.append_nil, List.toList_toArray, c0, c5] <;> first | done | rfl)
  | none =>
    rw [hQ] at hop hst
    have hop : FnS cx 56 [.ptr 0 0] ⟨rd sx a k l, k + 1⟩ (.bool false) ⟨rd sx a k l, k + 1⟩ := hop
    have hbad := goBad hst
    have ex := And.intro @c0 (And.intro @c5 (And.intro @hg (And.intro @strAt (And.intro @hsetH (And.intro @bs4 @appH)))))
    repeat' (first
     | (with_reducible refine isO ?_); first | refine mvA (h := ?_) | refine asA (h := ?_) | refine quA (h := ?_) | refine wnA (h := ?_) | refine waA (h := ?_) | refine caA (hc := idxX _ _) (h := ?_) | refine caA (hc := hmac) (h := ?_) | refine caA (hc := hadr) (h := ?_) | refine caA (hc := dig1 _) (h := ?_) | refine caA (hc := let1 _) (h := ?_) | refine caA (hc := hop) (h := ?_)
     | (with_reducible refine isG ?_); first | refine stA (h := ?_) | refine srA (h := ?_) | refine swA (h := ?_) | refine s1A (h := ?_) | refine s0A (h := ?_) | refine sgA (h1 := fun _ => ?_) (h0 := fun _ => ?_) | refine sbA (h1 := fun _ => ?_) (h0 := fun _ => ?_)
     | (with_reducible refine isP ?_); first | refine dqA (h := ?_)
     | (with_reducible refine isC ?_); first | refine ctA (h := ?_) | refine cfA (h := ?_) | refine cdA (h1 := fun _ => ?_) (h0 := fun _ => ?_) | refine cbA (h1 := fun _ => ?_) (h0 := fun _ => ?_)
     | (with_reducible refine isR ?_); first
       | refine Ev.drawn (by decide +kernel) (l := [0, 1, 2, 3, 4, 5, 6]) (by decide +kernel) ?_
     | with_reducible refine Ev.seq ?_
     | refine EvL.cons ?_
     | refine EvL.nil ?_
     | with_reducible first | refine Ev.ops ?_ | refine NxE ?_ | refine BxN ?_ | refine BxX ?_ | refine NxX ?_ | refine NxR ?_ | refine BxR ?_ | refine NxG ?_ | refine BxG ?_ | refine GxR ?_ | refine GxN ?_ | refine GxX ?_ | refine Ev.goto ?_ | refine Ev.block ?_ | refine Ev.skip ?_ | refine Ev.exit ?_ | refine Ev.ret ?_ | refine Ev.label ?_ | refine EvOps.nil ?_ | refine EvPlan.nil ?_
     | (with_reducible refine BxO ?_ ?_; · decide)
     | refine GxJ (by rfl) (ih _ _ ?_)
     )
    all_goals first
      | (exfalso; omega)
      | refine lfA (rl := [.tmp 2, .tmp 3, .tmp 4]) rfl (hv := by
      simp only [packV, strip, stripAgg, stripCell, List.map_cons, List.map_nil]
      (rw [lexA_no sx hs hbad]; first | done | rfl)) (hp := (pure_toksV _))
end Go.Proofs.YtklcmgodhpediaaGreatDoor.L
