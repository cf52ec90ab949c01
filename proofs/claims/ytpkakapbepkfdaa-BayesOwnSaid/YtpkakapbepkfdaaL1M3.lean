/-
  The reference's Likely.
  Likely: the first of the most probable rows.
  'BayesLikely' answers true.
  Most: plain facts about the greatest weight; valid fractions.
  A configuration in which networks that are made are handed over whole.
  Force: its answer handed over.
  The weights of all rows add up.
  Likely: its answer handed over.
  'BayesOwn' answers true.
-/
import Derived.Test.YtpkakapbepkfdaaL1M2
import Derived.Test.YtpkakapbepkfdaaAmDeep
set_option linter.unusedVariables false
set_option linter.unusedSimpArgs false
set_option maxRecDepth 10000
namespace Go.Proofs.Ytpkakapbepkfdaa
open Go Go.Am

variable {h h' : Hp} {K : AV → Hp → Prop}

/-- The greatest weight so far, and its row. -/
def bestN (p t : List (List Int)) (f : List (Int × Int)) : Nat → Int × List Int
  | 0 => (0, [])
  | x + 1 => if agreeB (rowN p.length x) f && decide ((bestN p t f x).1 < weightB p t (rowN p.length x) p.length) then (weightB p t (rowN p.length x) p.length, rowN p.length x) else bestN p t f x
theorem bestN_bounds {p t : List (List Int)} (N : Net p t) (f : List (Int × Int)) : ∀ x, 0 ≤ (bestN p t f x).1 ∧ (bestN p t f x).1 ≤ 1099511627776
  | 0 => by simp [bestN]
  | x + 1 => by
    have h0 := bestN_bounds N f x
    have h1 := weight_bounds N (rowN p.length x) (Nat.le_refl _)
    have h2 := pow16_le (Nat.le_refl p.length) N.n1.2
    rw [bestN]; split
    · exact ⟨h1.1, by show weightB p t (rowN p.length x) p.length ≤ _; omega⟩
    · exact h0

/-- A row that is found agrees, and has the weight. -/
theorem bestN_row {p t : List (List Int)} (f : List (Int × Int)) : ∀ x, (bestN p t f x).1 = 0 ∧ (bestN p t f x).2 = [] ∨ ∃ y, y < x ∧ (bestN p t f x).2 = rowN p.length y ∧ (bestN p t f x).1 = weightB p t (rowN p.length y) p.length
  | 0 => .inl ⟨rfl, rfl⟩
  | x + 1 => by
    rw [bestN]
    split
    · exact .inr ⟨x, Nat.lt_succ_self x, rfl, rfl⟩
    · rcases bestN_row f x with h | ⟨y, h1, h2, h3⟩
      · exact .inl h
      · exact .inr ⟨y, by omega, h2, h3⟩

def refL (p t : List (List Int)) (f : List (Int × Int)) : AV :=
  if factsB p.length f then
    if (bestN p t f (2 ^ p.length)).1 = 0 then .tup [LI [], .agg [I 0, I 0], I 6]
    else .tup [LI (bestN p t f (2 ^ p.length)).2, redu (bestN p t f (2 ^ p.length)).1 (16 ^ p.length), I 0]
  else .tup [LI [], .agg [I 0, I 0], I 2]

theorem f38_con (p t : List (List Int)) (h1 : netB p t = true) (f : List (Int × Int)) (hfl : f.length ≤ maxLen) : Con Try.prog cfg 38 [.agg [LLI p, LLI t], LP f] (refL p t f) := by
  have N := Net.of h1
  have hn1 := N.n1
  have hpow : 2 ^ p.length ≤ 2 ^ 10 := Nat.pow_le_pow_right (by decide) hn1.2
  have kf0 := fun h h' K => ConW_num (h := h) (h' := h') (K := K) (f56_con p.length (by omega) f hfl) rfl
  cases hf : factsB p.length f with
  | false =>
    have hr : refL p t f = .tup [LI [], .agg [I 0, I 0], I 2] := by simp [refL, hf]
    refine Con_intro Try.func38 rfl ok38 (Nat.le_of_ble_eq_true rfl) rfl ?_
    simp only [Try.f38, Option.getD_some, initSt2]
    simp (disch := first | (simp only [go_sem, Bool.and_self, eq_self]; done) | omega | (simp only [List.length_cons, List.length_nil]; omega)) only [go_sem, ↓reduceIte, Nat.reduceEqDiff, Nat.reduceAdd, Nat.reduceMul, Nat.reduceSub, Int.reduceToNat, Nat.reduceBEq, List.size_toArray, List.length_cons, List.length_nil, Bool.false_and, Bool.true_and, Bool.or_false, Bool.false_or, Bool.and_false, Bool.and_true, kf0, hf, hr]
    rfl
  | true =>
  have kf := fun (x : Nat) h h' K => ConW_num (h := h) (h' := h') (K := K) (f67_con (rowN p.length x) f hfl (by rw [rowN_len]; exact facts_in hf)) rfl
  have kw := fun (x : Nat) h h' K => k53 (h := h) (h' := h') (K := K) p t N (rowN p.length x) row_rowN
  have e1 := fun t => shl_one (P := Try.prog) t p.length (by omega)
  refine Con_intro Try.func38 rfl ok38 (Nat.le_of_ble_eq_true rfl) rfl ?_
  simp only [Try.f38, Option.getD_some, initSt2]
  have n0 := bestN_bounds N f
  simp (disch := first | (simp only [go_sem, Bool.and_self, eq_self]; done) | omega | (simp only [List.length_cons, List.length_nil]; omega)) only [go_sem, ↓reduceIte, Nat.reduceEqDiff, Nat.reduceAdd, Nat.reduceMul, Nat.reduceSub, Int.reduceToNat, Nat.reduceBEq, List.size_toArray, List.length_cons, List.length_nil, Bool.false_and, Bool.true_and, Bool.or_false, Bool.false_or, Bool.and_false, Bool.and_true, kf0, hf]
  refine WP_for 10 (2 ^ p.length) (fun x st h => st 1 = LP f ∧ st 2 = .ptr 0 0 ∧ st 5 = .ptr 1 0 ∧ st 7 = I p.length ∧ st 8 = I (bestN p t f x).1 ∧ h.nx = 2 ∧ h.bl 0 = some (.cells false false [LLI p, LLI t]) ∧ h.bl 1 = some (.cells false false [I 0, I 0]) ∧ (st 9 = LI (bestN p t f x).2 ∨ (st 9 = .nil ∧ (bestN p t f x).1 = 0))) (by simp (disch := first | (simp only [go_sem, Bool.and_self, eq_self]; done) | omega | (simp only [List.length_cons, List.length_nil]; omega)) only [go_sem, ↓reduceIte, Nat.reduceEqDiff, Nat.reduceAdd, Nat.reduceMul, Nat.reduceSub, Int.reduceToNat, Nat.reduceBEq, List.size_toArray, List.length_cons, List.length_nil, Bool.false_and, Bool.true_and, Bool.or_false, Bool.false_or, Bool.and_false, Bool.and_true]) ⟨by simp (disch := first | (simp only [go_sem, Bool.and_self, eq_self]; done) | omega | (simp only [List.length_cons, List.length_nil]; omega)) only [go_sem, ↓reduceIte, Nat.reduceEqDiff, Nat.reduceAdd, Nat.reduceMul, Nat.reduceSub, Int.reduceToNat, Nat.reduceBEq, List.size_toArray, List.length_cons, List.length_nil, Bool.false_and, Bool.true_and, Bool.or_false, Bool.false_or, Bool.and_false, Bool.and_true], by simp (disch := first | (simp only [go_sem, Bool.and_self, eq_self]; done) | omega | (simp only [List.length_cons, List.length_nil]; omega)) only [go_sem, ↓reduceIte, Nat.reduceEqDiff, Nat.reduceAdd, Nat.reduceMul, Nat.reduceSub, Int.reduceToNat, Nat.reduceBEq, List.size_toArray, List.length_cons, List.length_nil, Bool.false_and, Bool.true_and, Bool.or_false, Bool.false_or, Bool.and_false, Bool.and_true], by simp (disch := first | (simp only [go_sem, Bool.and_self, eq_self]; done) | omega | (simp only [List.length_cons, List.length_nil]; omega)) only [go_sem, ↓reduceIte, Nat.reduceEqDiff, Nat.reduceAdd, Nat.reduceMul, Nat.reduceSub, Int.reduceToNat, Nat.reduceBEq, List.size_toArray, List.length_cons, List.length_nil, Bool.false_and, Bool.true_and, Bool.or_false, Bool.false_or, Bool.and_false, Bool.and_true], by simp (disch := first | (simp only [go_sem, Bool.and_self, eq_self]; done) | omega | (simp only [List.length_cons, List.length_nil]; omega)) only [go_sem, ↓reduceIte, Nat.reduceEqDiff, Nat.reduceAdd, Nat.reduceMul, Nat.reduceSub, Int.reduceToNat, Nat.reduceBEq, List.size_toArray, List.length_cons, List.length_nil, Bool.false_and, Bool.true_and, Bool.or_false, Bool.false_or, Bool.and_false, Bool.and_true], by simp (disch := first | (simp only [go_sem, Bool.and_self, eq_self]; done) | omega | (simp only [List.length_cons, List.length_nil]; omega)) only [go_sem, ↓reduceIte, Nat.reduceEqDiff, Nat.reduceAdd, Nat.reduceMul, Nat.reduceSub, Int.reduceToNat, Nat.reduceBEq, List.size_toArray, List.length_cons, List.length_nil, Bool.false_and, Bool.true_and, Bool.or_false, Bool.false_or, Bool.and_false, Bool.and_true]; rfl, by simp (disch := first | (simp only [go_sem, Bool.and_self, eq_self]; done) | omega | (simp only [List.length_cons, List.length_nil]; omega)) only [go_sem, ↓reduceIte, Nat.reduceEqDiff, Nat.reduceAdd, Nat.reduceMul, Nat.reduceSub, Int.reduceToNat, Nat.reduceBEq, List.size_toArray, List.length_cons, List.length_nil, Bool.false_and, Bool.true_and, Bool.or_false, Bool.false_or, Bool.and_false, Bool.and_true], by simp (disch := first | (simp only [go_sem, Bool.and_self, eq_self]; done) | omega | (simp only [List.length_cons, List.length_nil]; omega)) only [go_sem, ↓reduceIte, Nat.reduceEqDiff, Nat.reduceAdd, Nat.reduceMul, Nat.reduceSub, Int.reduceToNat, Nat.reduceBEq, List.size_toArray, List.length_cons, List.length_nil, Bool.false_and, Bool.true_and, Bool.or_false, Bool.false_or, Bool.and_false, Bool.and_true], by simp (disch := first | (simp only [go_sem, Bool.and_self, eq_self]; done) | omega | (simp only [List.length_cons, List.length_nil]; omega)) only [go_sem, ↓reduceIte, Nat.reduceEqDiff, Nat.reduceAdd, Nat.reduceMul, Nat.reduceSub, Int.reduceToNat, Nat.reduceBEq, List.size_toArray, List.length_cons, List.length_nil, Bool.false_and, Bool.true_and, Bool.or_false, Bool.false_or, Bool.and_false, Bool.and_true], .inr ⟨by simp (disch := first | (simp only [go_sem, Bool.and_self, eq_self]; done) | omega | (simp only [List.length_cons, List.length_nil]; omega)) only [go_sem, ↓reduceIte, Nat.reduceEqDiff, Nat.reduceAdd, Nat.reduceMul, Nat.reduceSub, Int.reduceToNat, Nat.reduceBEq, List.size_toArray, List.length_cons, List.length_nil, Bool.false_and, Bool.true_and, Bool.or_false, Bool.false_or, Bool.and_false, Bool.and_true], rfl⟩⟩ ?_
  rintro x st h hx s10 ⟨s1, s2, s5, s7, s8, bn, b0, b1, hv⟩
  by_cases hlt : x < 2 ^ p.length
  case neg =>
    have hxx : x = 2 ^ p.length := by omega
    by_cases hz : (bestN p t f x).1 = 0
    · have hr : refL p t f = .tup [LI [], .agg [I 0, I 0], I 6] := by simp only [refL, hf, if_true, ← hxx, hz]
      rw [hz] at s8
      simp (disch := first | (simp only [go_sem, Bool.and_self, eq_self]; done) | omega | (simp only [List.length_cons, List.length_nil]; omega)) only [go_sem, ↓reduceIte, Nat.reduceEqDiff, Nat.reduceAdd, Nat.reduceMul, Nat.reduceSub, Int.reduceToNat, Nat.reduceBEq, List.size_toArray, List.length_cons, List.length_nil, Bool.false_and, Bool.true_and, Bool.or_false, Bool.false_or, Bool.and_false, Bool.and_true, s1, s2, s5, s7, s8, s10, bn, b0, b1, e1, hlt, hr]
      rfl
    · have s9 : st 9 = LI (bestN p t f x).2 := by
        rcases hv with h | ⟨_, h⟩
        · exact h
        · exact absurd h hz
      rcases bestN_row (p := p) (t := t) f x with ⟨h, _⟩ | ⟨y, y1, y2, y3⟩
      · exact absurd h hz
      have hrow : rowOkB p (rowN p.length y) = true := by
        simp only [rowOkB, rowN_len, decide_true, Bool.true_and]
        rw [not_any_nth (f := fun x => !inB x 0 1) fun j hj => by
          rw [rowN_len] at hj
          rcases (row_rowN (p := p) (x := y)).bit j hj with h | h <;> rw [h] <;> rfl]
        rfl
      have hm : (rowN p.length y).length ≤ maxLen := by rw [rowN_len]; have ml : maxLen = 9223372036854775807 := by decide
                                                        omega
      have hj : refJ p t (rowN p.length y) = .tup [redu (weightB p t (rowN p.length y) p.length) (16 ^ p.length), .bool true] := by simp only [refJ, hrow, if_true]
      have kj := fun h h' K => ConW_num (h := h) (h' := h') (K := K) (f21_con p t N (rowN p.length y) hm) (by rw [hj]; rfl)
      rw [hj] at kj
      rw [y3] at s8 hz
      have hr : refL p t f = .tup [LI (rowN p.length y), redu (weightB p t (rowN p.length y) p.length) (16 ^ p.length), I 0] := by simp only [refL, hf, if_true, ← hxx, y2, y3, hz, if_false]
      rw [y2] at s9
      simp (disch := first | (simp only [go_sem, Bool.and_self, eq_self]; done) | omega | (simp only [List.length_cons, List.length_nil]; omega)) only [go_sem, ↓reduceIte, Nat.reduceEqDiff, Nat.reduceAdd, Nat.reduceMul, Nat.reduceSub, Int.reduceToNat, Nat.reduceBEq, List.size_toArray, List.length_cons, List.length_nil, Bool.false_and, Bool.true_and, Bool.or_false, Bool.false_or, Bool.and_false, Bool.and_true, s1, s2, s5, s7, s8, s9, s10, bn, b0, b1, e1, hlt, hz, kj, hr]
  have kv := fun h h' K => ConW_any (h := h) (h' := h') (K := K) (f33_con p.length x hn1.2 (by omega)) rfl
  cases ha : agreeB (rowN p.length x) f with
  | false =>
    have hb : bestN p t f (x + 1) = bestN p t f x := by simp [bestN, ha]
    simp (disch := first | (simp only [go_sem, Bool.and_self, eq_self]; done) | omega | (simp only [List.length_cons, List.length_nil]; omega)) only [go_sem, ↓reduceIte, Nat.reduceEqDiff, Nat.reduceAdd, Nat.reduceMul, Nat.reduceSub, Int.reduceToNat, Nat.reduceBEq, List.size_toArray, List.length_cons, List.length_nil, Bool.false_and, Bool.true_and, Bool.or_false, Bool.false_or, Bool.and_false, Bool.and_true, s1, s2, s5, s7, s8, s10, b0, e1, hlt, kv, kf, kw, ha]
    rw [ForK_normal]
    exact ⟨hlt, by simp (disch := first | (simp only [go_sem, Bool.and_self, eq_self]; done) | omega | (simp only [List.length_cons, List.length_nil]; omega)) only [go_sem, ↓reduceIte, Nat.reduceEqDiff, Nat.reduceAdd, Nat.reduceMul, Nat.reduceSub, Int.reduceToNat, Nat.reduceBEq, List.size_toArray, List.length_cons, List.length_nil, Bool.false_and, Bool.true_and, Bool.or_false, Bool.false_or, Bool.and_false, Bool.and_true, s10], by simp (disch := first | (simp only [go_sem, Bool.and_self, eq_self]; done) | omega | (simp only [List.length_cons, List.length_nil]; omega)) only [go_sem, ↓reduceIte, Nat.reduceEqDiff, Nat.reduceAdd, Nat.reduceMul, Nat.reduceSub, Int.reduceToNat, Nat.reduceBEq, List.size_toArray, List.length_cons, List.length_nil, Bool.false_and, Bool.true_and, Bool.or_false, Bool.false_or, Bool.and_false, Bool.and_true, s1], by simp (disch := first | (simp only [go_sem, Bool.and_self, eq_self]; done) | omega | (simp only [List.length_cons, List.length_nil]; omega)) only [go_sem, ↓reduceIte, Nat.reduceEqDiff, Nat.reduceAdd, Nat.reduceMul, Nat.reduceSub, Int.reduceToNat, Nat.reduceBEq, List.size_toArray, List.length_cons, List.length_nil, Bool.false_and, Bool.true_and, Bool.or_false, Bool.false_or, Bool.and_false, Bool.and_true, s2], by simp (disch := first | (simp only [go_sem, Bool.and_self, eq_self]; done) | omega | (simp only [List.length_cons, List.length_nil]; omega)) only [go_sem, ↓reduceIte, Nat.reduceEqDiff, Nat.reduceAdd, Nat.reduceMul, Nat.reduceSub, Int.reduceToNat, Nat.reduceBEq, List.size_toArray, List.length_cons, List.length_nil, Bool.false_and, Bool.true_and, Bool.or_false, Bool.false_or, Bool.and_false, Bool.and_true, s5], by simp (disch := first | (simp only [go_sem, Bool.and_self, eq_self]; done) | omega | (simp only [List.length_cons, List.length_nil]; omega)) only [go_sem, ↓reduceIte, Nat.reduceEqDiff, Nat.reduceAdd, Nat.reduceMul, Nat.reduceSub, Int.reduceToNat, Nat.reduceBEq, List.size_toArray, List.length_cons, List.length_nil, Bool.false_and, Bool.true_and, Bool.or_false, Bool.false_or, Bool.and_false, Bool.and_true, s7], by simp (disch := first | (simp only [go_sem, Bool.and_self, eq_self]; done) | omega | (simp only [List.length_cons, List.length_nil]; omega)) only [go_sem, ↓reduceIte, Nat.reduceEqDiff, Nat.reduceAdd, Nat.reduceMul, Nat.reduceSub, Int.reduceToNat, Nat.reduceBEq, List.size_toArray, List.length_cons, List.length_nil, Bool.false_and, Bool.true_and, Bool.or_false, Bool.false_or, Bool.and_false, Bool.and_true, s8, hb], by simp (disch := first | (simp only [go_sem, Bool.and_self, eq_self]; done) | omega | (simp only [List.length_cons, List.length_nil]; omega)) only [go_sem, ↓reduceIte, Nat.reduceEqDiff, Nat.reduceAdd, Nat.reduceMul, Nat.reduceSub, Int.reduceToNat, Nat.reduceBEq, List.size_toArray, List.length_cons, List.length_nil, Bool.false_and, Bool.true_and, Bool.or_false, Bool.false_or, Bool.and_false, Bool.and_true, bn], by simp (disch := first | (simp only [go_sem, Bool.and_self, eq_self]; done) | omega | (simp only [List.length_cons, List.length_nil]; omega)) only [go_sem, ↓reduceIte, Nat.reduceEqDiff, Nat.reduceAdd, Nat.reduceMul, Nat.reduceSub, Int.reduceToNat, Nat.reduceBEq, List.size_toArray, List.length_cons, List.length_nil, Bool.false_and, Bool.true_and, Bool.or_false, Bool.false_or, Bool.and_false, Bool.and_true, b0], by simp (disch := first | (simp only [go_sem, Bool.and_self, eq_self]; done) | omega | (simp only [List.length_cons, List.length_nil]; omega)) only [go_sem, ↓reduceIte, Nat.reduceEqDiff, Nat.reduceAdd, Nat.reduceMul, Nat.reduceSub, Int.reduceToNat, Nat.reduceBEq, List.size_toArray, List.length_cons, List.length_nil, Bool.false_and, Bool.true_and, Bool.or_false, Bool.false_or, Bool.and_false, Bool.and_true, b1], by rw [hb]; simp (disch := first | (simp only [go_sem, Bool.and_self, eq_self]; done) | omega | (simp only [List.length_cons, List.length_nil]; omega)) only [go_sem, ↓reduceIte, Nat.reduceEqDiff, Nat.reduceAdd, Nat.reduceMul, Nat.reduceSub, Int.reduceToNat, Nat.reduceBEq, List.size_toArray, List.length_cons, List.length_nil, Bool.false_and, Bool.true_and, Bool.or_false, Bool.false_or, Bool.and_false, Bool.and_true]; exact hv⟩
  | true =>
  by_cases hw : (bestN p t f x).1 < weightB p t (rowN p.length x) p.length
  · have hb : bestN p t f (x + 1) = (weightB p t (rowN p.length x) p.length, rowN p.length x) := by simp [bestN, ha, hw]
    simp (disch := first | (simp only [go_sem, Bool.and_self, eq_self]; done) | omega | (simp only [List.length_cons, List.length_nil]; omega)) only [go_sem, ↓reduceIte, Nat.reduceEqDiff, Nat.reduceAdd, Nat.reduceMul, Nat.reduceSub, Int.reduceToNat, Nat.reduceBEq, List.size_toArray, List.length_cons, List.length_nil, Bool.false_and, Bool.true_and, Bool.or_false, Bool.false_or, Bool.and_false, Bool.and_true, s1, s2, s5, s7, s8, s10, b0, e1, hlt, kv, kf, kw, ha, hw]
    rw [ForK_normal]
    exact ⟨hlt, by simp (disch := first | (simp only [go_sem, Bool.and_self, eq_self]; done) | omega | (simp only [List.length_cons, List.length_nil]; omega)) only [go_sem, ↓reduceIte, Nat.reduceEqDiff, Nat.reduceAdd, Nat.reduceMul, Nat.reduceSub, Int.reduceToNat, Nat.reduceBEq, List.size_toArray, List.length_cons, List.length_nil, Bool.false_and, Bool.true_and, Bool.or_false, Bool.false_or, Bool.and_false, Bool.and_true, s10], by simp (disch := first | (simp only [go_sem, Bool.and_self, eq_self]; done) | omega | (simp only [List.length_cons, List.length_nil]; omega)) only [go_sem, ↓reduceIte, Nat.reduceEqDiff, Nat.reduceAdd, Nat.reduceMul, Nat.reduceSub, Int.reduceToNat, Nat.reduceBEq, List.size_toArray, List.length_cons, List.length_nil, Bool.false_and, Bool.true_and, Bool.or_false, Bool.false_or, Bool.and_false, Bool.and_true, s1], by simp (disch := first | (simp only [go_sem, Bool.and_self, eq_self]; done) | omega | (simp only [List.length_cons, List.length_nil]; omega)) only [go_sem, ↓reduceIte, Nat.reduceEqDiff, Nat.reduceAdd, Nat.reduceMul, Nat.reduceSub, Int.reduceToNat, Nat.reduceBEq, List.size_toArray, List.length_cons, List.length_nil, Bool.false_and, Bool.true_and, Bool.or_false, Bool.false_or, Bool.and_false, Bool.and_true, s2], by simp (disch := first | (simp only [go_sem, Bool.and_self, eq_self]; done) | omega | (simp only [List.length_cons, List.length_nil]; omega)) only [go_sem, ↓reduceIte, Nat.reduceEqDiff, Nat.reduceAdd, Nat.reduceMul, Nat.reduceSub, Int.reduceToNat, Nat.reduceBEq, List.size_toArray, List.length_cons, List.length_nil, Bool.false_and, Bool.true_and, Bool.or_false, Bool.false_or, Bool.and_false, Bool.and_true, s5], by simp (disch := first | (simp only [go_sem, Bool.and_self, eq_self]; done) | omega | (simp only [List.length_cons, List.length_nil]; omega)) only [go_sem, ↓reduceIte, Nat.reduceEqDiff, Nat.reduceAdd, Nat.reduceMul, Nat.reduceSub, Int.reduceToNat, Nat.reduceBEq, List.size_toArray, List.length_cons, List.length_nil, Bool.false_and, Bool.true_and, Bool.or_false, Bool.false_or, Bool.and_false, Bool.and_true, s7], by simp (disch := first | (simp only [go_sem, Bool.and_self, eq_self]; done) | omega | (simp only [List.length_cons, List.length_nil]; omega)) only [go_sem, ↓reduceIte, Nat.reduceEqDiff, Nat.reduceAdd, Nat.reduceMul, Nat.reduceSub, Int.reduceToNat, Nat.reduceBEq, List.size_toArray, List.length_cons, List.length_nil, Bool.false_and, Bool.true_and, Bool.or_false, Bool.false_or, Bool.and_false, Bool.and_true, hb], by simp (disch := first | (simp only [go_sem, Bool.and_self, eq_self]; done) | omega | (simp only [List.length_cons, List.length_nil]; omega)) only [go_sem, ↓reduceIte, Nat.reduceEqDiff, Nat.reduceAdd, Nat.reduceMul, Nat.reduceSub, Int.reduceToNat, Nat.reduceBEq, List.size_toArray, List.length_cons, List.length_nil, Bool.false_and, Bool.true_and, Bool.or_false, Bool.false_or, Bool.and_false, Bool.and_true, bn], by simp (disch := first | (simp only [go_sem, Bool.and_self, eq_self]; done) | omega | (simp only [List.length_cons, List.length_nil]; omega)) only [go_sem, ↓reduceIte, Nat.reduceEqDiff, Nat.reduceAdd, Nat.reduceMul, Nat.reduceSub, Int.reduceToNat, Nat.reduceBEq, List.size_toArray, List.length_cons, List.length_nil, Bool.false_and, Bool.true_and, Bool.or_false, Bool.false_or, Bool.and_false, Bool.and_true, b0], by simp (disch := first | (simp only [go_sem, Bool.and_self, eq_self]; done) | omega | (simp only [List.length_cons, List.length_nil]; omega)) only [go_sem, ↓reduceIte, Nat.reduceEqDiff, Nat.reduceAdd, Nat.reduceMul, Nat.reduceSub, Int.reduceToNat, Nat.reduceBEq, List.size_toArray, List.length_cons, List.length_nil, Bool.false_and, Bool.true_and, Bool.or_false, Bool.false_or, Bool.and_false, Bool.and_true, b1], .inl (by simp (disch := first | (simp only [go_sem, Bool.and_self, eq_self]; done) | omega | (simp only [List.length_cons, List.length_nil]; omega)) only [go_sem, ↓reduceIte, Nat.reduceEqDiff, Nat.reduceAdd, Nat.reduceMul, Nat.reduceSub, Int.reduceToNat, Nat.reduceBEq, List.size_toArray, List.length_cons, List.length_nil, Bool.false_and, Bool.true_and, Bool.or_false, Bool.false_or, Bool.and_false, Bool.and_true, hb])⟩
  · have hb : bestN p t f (x + 1) = bestN p t f x := by simp [bestN, ha, hw]
    simp (disch := first | (simp only [go_sem, Bool.and_self, eq_self]; done) | omega | (simp only [List.length_cons, List.length_nil]; omega)) only [go_sem, ↓reduceIte, Nat.reduceEqDiff, Nat.reduceAdd, Nat.reduceMul, Nat.reduceSub, Int.reduceToNat, Nat.reduceBEq, List.size_toArray, List.length_cons, List.length_nil, Bool.false_and, Bool.true_and, Bool.or_false, Bool.false_or, Bool.and_false, Bool.and_true, s1, s2, s5, s7, s8, s10, b0, e1, hlt, kv, kf, kw, ha, hw]
    rw [ForK_normal]
    exact ⟨hlt, by simp (disch := first | (simp only [go_sem, Bool.and_self, eq_self]; done) | omega | (simp only [List.length_cons, List.length_nil]; omega)) only [go_sem, ↓reduceIte, Nat.reduceEqDiff, Nat.reduceAdd, Nat.reduceMul, Nat.reduceSub, Int.reduceToNat, Nat.reduceBEq, List.size_toArray, List.length_cons, List.length_nil, Bool.false_and, Bool.true_and, Bool.or_false, Bool.false_or, Bool.and_false, Bool.and_true, s10], by simp (disch := first | (simp only [go_sem, Bool.and_self, eq_self]; done) | omega | (simp only [List.length_cons, List.length_nil]; omega)) only [go_sem, ↓reduceIte, Nat.reduceEqDiff, Nat.reduceAdd, Nat.reduceMul, Nat.reduceSub, Int.reduceToNat, Nat.reduceBEq, List.size_toArray, List.length_cons, List.length_nil, Bool.false_and, Bool.true_and, Bool.or_false, Bool.false_or, Bool.and_false, Bool.and_true, s1], by simp (disch := first | (simp only [go_sem, Bool.and_self, eq_self]; done) | omega | (simp only [List.length_cons, List.length_nil]; omega)) only [go_sem, ↓reduceIte, Nat.reduceEqDiff, Nat.reduceAdd, Nat.reduceMul, Nat.reduceSub, Int.reduceToNat, Nat.reduceBEq, List.size_toArray, List.length_cons, List.length_nil, Bool.false_and, Bool.true_and, Bool.or_false, Bool.false_or, Bool.and_false, Bool.and_true, s2], by simp (disch := first | (simp only [go_sem, Bool.and_self, eq_self]; done) | omega | (simp only [List.length_cons, List.length_nil]; omega)) only [go_sem, ↓reduceIte, Nat.reduceEqDiff, Nat.reduceAdd, Nat.reduceMul, Nat.reduceSub, Int.reduceToNat, Nat.reduceBEq, List.size_toArray, List.length_cons, List.length_nil, Bool.false_and, Bool.true_and, Bool.or_false, Bool.false_or, Bool.and_false, Bool.and_true, s5], by simp (disch := first | (simp only [go_sem, Bool.and_self, eq_self]; done) | omega | (simp only [List.length_cons, List.length_nil]; omega)) only [go_sem, ↓reduceIte, Nat.reduceEqDiff, Nat.reduceAdd, Nat.reduceMul, Nat.reduceSub, Int.reduceToNat, Nat.reduceBEq, List.size_toArray, List.length_cons, List.length_nil, Bool.false_and, Bool.true_and, Bool.or_false, Bool.false_or, Bool.and_false, Bool.and_true, s7], by simp (disch := first | (simp only [go_sem, Bool.and_self, eq_self]; done) | omega | (simp only [List.length_cons, List.length_nil]; omega)) only [go_sem, ↓reduceIte, Nat.reduceEqDiff, Nat.reduceAdd, Nat.reduceMul, Nat.reduceSub, Int.reduceToNat, Nat.reduceBEq, List.size_toArray, List.length_cons, List.length_nil, Bool.false_and, Bool.true_and, Bool.or_false, Bool.false_or, Bool.and_false, Bool.and_true, s8, hb], by simp (disch := first | (simp only [go_sem, Bool.and_self, eq_self]; done) | omega | (simp only [List.length_cons, List.length_nil]; omega)) only [go_sem, ↓reduceIte, Nat.reduceEqDiff, Nat.reduceAdd, Nat.reduceMul, Nat.reduceSub, Int.reduceToNat, Nat.reduceBEq, List.size_toArray, List.length_cons, List.length_nil, Bool.false_and, Bool.true_and, Bool.or_false, Bool.false_or, Bool.and_false, Bool.and_true, bn], by simp (disch := first | (simp only [go_sem, Bool.and_self, eq_self]; done) | omega | (simp only [List.length_cons, List.length_nil]; omega)) only [go_sem, ↓reduceIte, Nat.reduceEqDiff, Nat.reduceAdd, Nat.reduceMul, Nat.reduceSub, Int.reduceToNat, Nat.reduceBEq, List.size_toArray, List.length_cons, List.length_nil, Bool.false_and, Bool.true_and, Bool.or_false, Bool.false_or, Bool.and_false, Bool.and_true, b0], by simp (disch := first | (simp only [go_sem, Bool.and_self, eq_self]; done) | omega | (simp only [List.length_cons, List.length_nil]; omega)) only [go_sem, ↓reduceIte, Nat.reduceEqDiff, Nat.reduceAdd, Nat.reduceMul, Nat.reduceSub, Int.reduceToNat, Nat.reduceBEq, List.size_toArray, List.length_cons, List.length_nil, Bool.false_and, Bool.true_and, Bool.or_false, Bool.false_or, Bool.and_false, Bool.and_true, b1], by rw [hb]; simp (disch := first | (simp only [go_sem, Bool.and_self, eq_self]; done) | omega | (simp only [List.length_cons, List.length_nil]; omega)) only [go_sem, ↓reduceIte, Nat.reduceEqDiff, Nat.reduceAdd, Nat.reduceMul, Nat.reduceSub, Int.reduceToNat, Nat.reduceBEq, List.size_toArray, List.length_cons, List.length_nil, Bool.false_and, Bool.true_and, Bool.or_false, Bool.false_or, Bool.and_false, Bool.and_true]; exact hv⟩

end Go.Proofs.Ytpkakapbepkfdaa

set_option linter.unusedVariables false
set_option linter.unusedSimpArgs false
set_option maxRecDepth 10000
namespace Go.Proofs.Ytpkakapbepkfdaa
open Go Go.Am

variable {h h' : Hp} {K : AV → Hp → Prop}

def bestS (p t : List (List Int)) (a : Int × List Int) (w : List Int) : Int × List Int := if a.1 < weightB p t w p.length then (weightB p t w p.length, w) else a
def bestV (p t : List (List Int)) (d : List (List Int)) : Int × List Int := d.foldl (bestS p t) (0, [])
theorem bestV_snoc (p t : List (List Int)) (d : List (List Int)) (w : List Int) : bestV p t (d ++ [w]) = bestS p t (bestV p t d) w := by simp [bestV]

theorem vis_list (φ : Int → Option Int) : ∀ (m : Nat) (pre : List Int), vis φ m pre = ((List.range (2 ^ m)).filter fun x => okFrom φ pre.length (rowN m x)).map fun x => pre ++ rowN m x
  | 0, pre => by simp [vis, rowN, okFrom, List.range_succ]
  | m + 1, pre => by
    have h0 := vis_list φ m (pre ++ [0])
    have h1 := vis_list φ m (pre ++ [1])
    rw [show 2 ^ (m + 1) = 2 ^ m + 2 ^ m by rw [Nat.pow_succ]; omega, List.range_add, List.filter_append, List.map_append, vis]
    congr 1
    · have e : (List.range (2 ^ m)).filter (fun x => okFrom φ pre.length (rowN (m + 1) x)) = (List.range (2 ^ m)).filter (fun x => okv φ pre.length 0 && okFrom φ (pre.length + 1) (rowN m x)) :=
        List.filter_congr fun x hx => by rw [rowN_zero (List.mem_range.1 hx), okFrom]
      rw [e]
      cases okv φ pre.length 0 with
      | false => simp
      | true =>
        simp only [if_true, h0, Bool.true_and, List.length_append, List.length_singleton]
        refine List.map_congr_left fun x hx => ?_
        rw [rowN_zero (List.mem_range.1 (List.mem_filter.1 hx).1)]; simp
    · rw [List.filter_map, List.map_map]
      have e : (List.range (2 ^ m)).filter ((fun x => okFrom φ pre.length (rowN (m + 1) x)) ∘ (2 ^ m + ·)) = (List.range (2 ^ m)).filter (fun x => okv φ pre.length 1 && okFrom φ (pre.length + 1) (rowN m x)) :=
        List.filter_congr fun x hx => by simp only [Function.comp]; rw [rowN_one (List.mem_range.1 hx), okFrom]
      rw [e]
      cases okv φ pre.length 1 with
      | false => simp
      | true =>
        simp only [if_true, h1, Bool.true_and, List.length_append, List.length_singleton]
        refine List.map_congr_left fun x hx => ?_
        simp only [Function.comp]
        rw [rowN_one (List.mem_range.1 (List.mem_filter.1 hx).1)]; simp
theorem bestN_fold (p t : List (List Int)) (f : List (Int × Int)) : ∀ x, bestN p t f x = bestV p t (((List.range x).filter fun y => agreeB (rowN p.length y) f).map (rowN p.length))
  | 0 => rfl
  | x + 1 => by
    rw [bestN, List.range_succ, List.filter_append, List.map_append, bestN_fold p t f x]
    cases ha : agreeB (rowN p.length x) f with
    | false => simp [ha]
    | true =>
      simp only [ha, List.filter_cons_of_pos, List.filter_nil, List.map_cons, List.map_nil, bestV_snoc, Bool.true_and, decide_eq_true_eq]
      rfl
theorem best_vis {p t : List (List Int)} {g : List (Int × Int)} (hg : factsB p.length g = true) : bestV p t (vis (phi g) p.length []) = bestN p t g (2 ^ p.length) := by
  rw [vis_list, bestN_fold]
  have e : ((List.range (2 ^ p.length)).filter fun x => okFrom (phi g) ([] : List Int).length (rowN p.length x)) = (List.range (2 ^ p.length)).filter fun y => agreeB (rowN p.length y) g :=
    List.filter_congr fun x _ => by
      have := ok_facts (g := []) (f := g) rfl hg (by rw [clashB, List.any_eq_false]; intro q _; simp [phi]) (rowN_len p.length x)
      simpa [agreeB] using this
  rw [e]
  rfl
theorem bestV_row {p t : List (List Int)} {n : Nat} : ∀ d : List (List Int), (∀ w ∈ d, w.length = n) → (bestV p t d).2.length ≤ n := by
  intro d hd
  suffices h : ∀ (d : List (List Int)) (a : Int × List Int), a.2.length ≤ n → (∀ w ∈ d, w.length = n) → (d.foldl (bestS p t) a).2.length ≤ n from h d _ (by simp) hd
  intro d
  induction d with
  | nil => intro a ha _; exact ha
  | cons w d ih =>
    intro a ha hd
    refine ih _ ?_ fun w' hw => hd w' (List.mem_cons_of_mem _ hw)
    unfold bestS
    split
    · exact Nat.le_of_eq (hd w List.mem_cons_self)
    · exact ha

/-- The memory of 'Likely' after some visits. -/
structure LikG (p t : List (List Int)) (g : List (Int × Int)) (A B : Nat) (d : List (List Int)) (ys : List Int) (h : Hp) : Prop where
  nx : B + 5 ≤ h.nx
  len : ys.length = 10
  all : ∀ w ∈ d, w.length = p.length
  b1 : h.bl 1 = some (.cells false false [I 0, I 0])
  b2 : h.bl 2 = some (.cells false false [LLI p, LLI t, I p.length])
  b4 : h.bl 4 = some (.mp false (entF g))
  bA : h.bl A = some (.cells false false [I (bestV p t d).1])
  bR : h.bl (A + 1) = some (.cells false false ((ten (bestV p t d).2).flatMap (e1 I)))
  f0 : h.bl B = some (.cells false false [LLI p, LLI t, I p.length])
  f1 : h.bl (B + 1) = some (.cells false false [.mp 4])
  f2 : h.bl (B + 2) = some (.cells false false [.fn 65 [.ptr 2 0, .ptr A 0, .ptr (A + 1) 0]])
  f3 : h.bl (B + 3) = some (.cells false false (ys.flatMap (e1 I)))
  f4 : h.bl (B + 4) = some (.cells false false [.fn 77 [.ptr B 0, .ptr (B + 2) 0, .ptr (B + 3) 0, .ptr (B + 1) 0, .ptr (B + 4) 0]])

theorem storeC_ten (id : Nat) (row : Bool) (xs ys : List Int) (hx : xs.length = 10) (hy : ys.length = 10) :
    storeC h id 0 10 (some (.cells false row (ys.flatMap (e1 I)))) (xs.flatMap (e1 I)) = some (.skp, h.put id (some (.cells false row (xs.flatMap (e1 I))))) := by
  have h1 : (xs.flatMap (e1 I)).all AV.isCell = true := by
    refine List.all_eq_true.2 fun x hx => ?_
    obtain ⟨a, _, ha⟩ := List.mem_flatMap.1 hx
    simp only [e1, List.mem_singleton] at ha
    subst ha; rfl
  rw [storeC_many id 0 10 row _ _ (by rw [flat_len, hx]) h1 (by rw [flat_len, hy]; decide)]
  have := setL_front I xs ys (by omega)
  rw [this, List.drop_of_length_le (by omega), List.append_nil]

theorem likEnv {p t : List (List Int)} (N : Net p t) (g : List (Int × Int)) (A B : Nat) (hA : 4 < A) (hB : B = A + 2) :
    Env p t p.length B (B + 2) (B + 3) (B + 1) (B + 4) 65 [.ptr 2 0, .ptr A 0, .ptr (A + 1) 0] (.mp 4) (phi g) (vis (phi g) p.length []) (fun d xs h => LikG p t g A B d xs h) := by
  refine ⟨fun g => g.len, fun g => g.f0, fun g => g.f2, fun g => g.f3, fun g => g.f1, fun g => g.f4, fun {d xs h} q k => ?_, fun {d xs h} g i v hi => ?_, rfl, fun {d xs h} q w hw hx hT => ?_⟩
  · have h4 : h.bl (mpId (.mp 4)) = some (.mp false (entF g)) := q.b4
    rw [h4, lookB_one 3 3 .i64 (I 0) 4 false (entF g) k true rfl, findK_phi]
    cases phi g k <;> rfl
  · have hbl : ∀ k, k ≠ B + 3 → (h.put (B + 3) (some (.cells false false ((xs.set i v).flatMap (e1 I))))).bl k = h.bl k := fun k hk => by simp [Hp.put, hk]
    exact ⟨g.nx, by simpa using g.len, g.all, (hbl _ (by omega)).trans g.b1, (hbl _ (by omega)).trans g.b2, (hbl _ (by omega)).trans g.b4, (hbl _ (by omega)).trans g.bA, (hbl _ (by omega)).trans g.bR,
      (hbl _ (by omega)).trans g.f0, (hbl _ (by omega)).trans g.f1, (hbl _ (by omega)).trans g.f2, by simp [Hp.put], (hbl _ (by omega)).trans g.f4⟩
  · suffices hh : ∃ v h', Shr Try.prog cfg 65 [.agg (xs.flatMap (e1 I)), .ptr 2 0, .ptr A 0, .ptr (A + 1) 0] h v h' ∧ (v = .tup [] ∧ LikG p t g A B (d ++ [w]) xs h') by
      obtain ⟨v, h', hs, rfl, r⟩ := hh
      exact ⟨h', hs, r⟩
    have hmem : w ∈ vis (phi g) p.length [] := by
      obtain ⟨r, hr⟩ := hT
      rw [← hr]; simp
    obtain ⟨hwl, hwb⟩ := vis_bits hmem
    have hn1 := N.n1
    have hxl := q.len
    have hvals : Vals xs p.length := ⟨hxl, fun i hi => by rw [hx, ten_nth (by omega)]; exact hwb i hi⟩
    have kw := fun h h' K => k51 (h := h) (h' := h') (K := K) p t N xs hvals
    have hwx : weightB p t xs p.length = weightB p t w p.length := weight_congr N fun k hk => by rw [hx, ten_nth (by omega)]
    rw [hwx] at kw
    have hal := fun h => allocB_flat (h := h) xs
    have hld := loadC_flat xs hxl
    have hrl : (ten (bestV p t d).2).length = 10 := ten_len (by have := bestV_row (p := p) (t := t) d q.all; omega)
    have hb2 := q.b2
    have hbA := q.bA
    have hbR := q.bR
    have hnx := q.nx
    have n0 : ¬ 2 = h.nx := by omega
    have n1 : ¬ A = h.nx := by omega
    have n2 : ¬ A + 1 = h.nx := by omega
    have n3 : ¬ A + 1 = A := by omega
    have hst0 : ∀ i, st0 i = .skp := fun _ => rfl
    have hc1 : [A, A + 1].contains h.nx = false := by
      simp only [List.contains_cons, List.contains_nil, Bool.or_false, Bool.or_eq_false_iff, beq_eq_false_iff_ne]; omega
    have hstr : cfg.strict 3 4 = true := rfl
    have hc2 : [A, A + 1].contains A = true := by simp
    have hc3 : [A, A + 1].contains (A + 1) = true := by simp
    have hst := fun h => storeC_ten (h := h) (A + 1) false xs (ten (bestV p t d).2) hxl hrl
    have l1 : h.nx < h.nx + 1 := by omega
    have l2 : A < h.nx + 1 := by omega
    have l3 : A + 1 < h.nx + 1 := by omega
    have hall : ∀ w' ∈ d ++ [w], w'.length = p.length := fun w' hw' => by
      rcases List.mem_append.1 hw' with hw' | hw'
      · exact q.all w' hw'
      · simp only [List.mem_singleton] at hw'; rw [hw']; exact hwl
    by_cases hlt : (bestV p t d).1 < weightB p t w p.length
    · have hb : bestV p t (d ++ [w]) = (weightB p t w p.length, w) := by rw [bestV_snoc, bestS, if_pos hlt]
      refine Shr_intro Try.func65 rfl ok65 (Nat.le_of_ble_eq_true rfl) ?_
      simp only [Try.f65, Option.getD_some, initSt4]
      simp (disch := first | (simp only [go_sem, Bool.and_self, eq_self]; done) | omega | (simp only [List.length_cons, List.length_nil]; omega)) only [go_sem, ↓reduceIte, Nat.reduceEqDiff, Nat.reduceAdd, Nat.reduceMul, Nat.reduceSub, Int.reduceToNat, Nat.reduceBEq, List.size_toArray, List.length_cons, List.length_nil, Bool.false_and, Bool.true_and, Bool.or_false, Bool.false_or, Bool.and_false, Bool.and_true, hal, hld, hb2, hbA, hbR, n0, n1, n2, n3, kw]
      simp only [hlt, decide_true, condW_true, ↓WP_region_t, List.size_toArray, List.length_cons, List.length_nil, Nat.reduceAdd, hstr, regW_t]
      simp only [go_sem, List.filterMap_cons, List.filterMap_nil, hst0]
      simp (disch := first | (simp only [go_sem, Bool.and_self, eq_self]; done) | omega | (simp only [List.length_cons, List.length_nil]; omega)) only [go_sem, ↓reduceIte, Nat.reduceEqDiff, Nat.reduceAdd, Nat.reduceMul, Nat.reduceSub, Int.reduceToNat, Nat.reduceBEq, List.size_toArray, List.length_cons, List.length_nil, Bool.false_and, Bool.true_and, Bool.or_false, Bool.false_or, Bool.and_false, Bool.and_true, List.filterMap_cons, List.filterMap_nil, hst0, hc1, hc2, hc3, l1, l2, l3, Bool.not_false, Bool.not_true, hld, hbA, hbR, n1, n2, n3, hst]
      have hbl : ∀ k, k < B + 5 → k ≠ A → k ≠ A + 1 → (((h.alloc (Blk.cells false false (List.flatMap (e1 I) xs))).put A (some (Blk.cells false false [AV.int IntKind.i64 (weightB p t w p.length)]))).put (A + 1) (some (Blk.cells false false (List.flatMap (e1 I) xs)))).bl k = h.bl k := fun k hk h1 h2 => by
        simp [Hp.alloc, Hp.put, show ¬ k = h.nx by omega, h1, h2]
      refine ⟨by show B + 5 ≤ h.nx + 1; omega, hxl, hall, (hbl _ (by omega) (by omega) (by omega)).trans q.b1, (hbl _ (by omega) (by omega) (by omega)).trans q.b2, (hbl _ (by omega) (by omega) (by omega)).trans q.b4, ?_, ?_,
        (hbl _ (by omega) (by omega) (by omega)).trans q.f0, (hbl _ (by omega) (by omega) (by omega)).trans q.f1, (hbl _ (by omega) (by omega) (by omega)).trans q.f2, (hbl _ (by omega) (by omega) (by omega)).trans q.f3, (hbl _ (by omega) (by omega) (by omega)).trans q.f4⟩
      · rw [hb]; simp [Hp.alloc, Hp.put]
      · rw [hb, hx]; simp [Hp.alloc, Hp.put]
    · have hb : bestV p t (d ++ [w]) = bestV p t d := by rw [bestV_snoc, bestS, if_neg hlt]
      refine Shr_intro Try.func65 rfl ok65 (Nat.le_of_ble_eq_true rfl) ?_
      simp only [Try.f65, Option.getD_some, initSt4]
      simp (disch := first | (simp only [go_sem, Bool.and_self, eq_self]; done) | omega | (simp only [List.length_cons, List.length_nil]; omega)) only [go_sem, ↓reduceIte, Nat.reduceEqDiff, Nat.reduceAdd, Nat.reduceMul, Nat.reduceSub, Int.reduceToNat, Nat.reduceBEq, List.size_toArray, List.length_cons, List.length_nil, Bool.false_and, Bool.true_and, Bool.or_false, Bool.false_or, Bool.and_false, Bool.and_true, hal, hld, hb2, hbA, hbR, n0, n1, n2, n3, kw, hlt]
      have hbl : ∀ k, k < B + 5 → (h.alloc (.cells false false (xs.flatMap (e1 I)))).bl k = h.bl k := fun k hk => by simp [Hp.alloc, show ¬ k = h.nx by omega]
      refine ⟨by show B + 5 ≤ h.nx + 1; omega, hxl, hall, (hbl _ (by omega)).trans q.b1, (hbl _ (by omega)).trans q.b2, (hbl _ (by omega)).trans q.b4, ?_, ?_,
        (hbl _ (by omega)).trans q.f0, (hbl _ (by omega)).trans q.f1, (hbl _ (by omega)).trans q.f2, (hbl _ (by omega)).trans q.f3, (hbl _ (by omega)).trans q.f4⟩
      · rw [hb]; exact (hbl _ (by omega)).trans q.bA
      · rw [hb]; exact (hbl _ (by omega)).trans q.bR

def likR (p t : List (List Int)) (g : List (Int × Int)) : AV := if netB p t then refL p t g else .tup [LI [], .agg [I 0, I 0], I 2]
theorem sealSl_part (id n : Nat) (fz row : Bool) (xs : List Int) (hn : n ≤ xs.length) :
    sealSl h id 0 n 1 (some (.cells fz row (xs.flatMap (e1 I)))) = some (LI (xs.take n), h.put id (some (.cells true row (xs.flatMap (e1 I))))) := by
  have h1 : AV.pureL (xs.flatMap (e1 I)) = true := pureL_flatMap xs
  have h2 : (xs.flatMap (e1 I)).take n = (xs.take n).flatMap (e1 I) := by
    have e : ∀ ys : List Int, ys.flatMap (e1 I) = ys.map I := by
      intro ys
      induction ys with
      | nil => rfl
      | cons y ys ih => simp [e1, ih]
    rw [e, e, List.map_take]
  simp only [sealSl]
  rw [if_pos h1, if_pos ⟨by rw [flat_len]; omega, Nat.one_pos⟩, List.drop_zero, Nat.mul_one, h2]
  have := chunk_flatMap (f := e1 I) (sz := 1) (xs.take n)
  rw [this]
theorem f37_con (p t : List (List Int)) (g : List (Int × Int)) (hp : okLL p) (ht : okLL t) (hg : g.length ≤ maxLen) : Con Try.prog cfg 37 [.agg [LLI p, LLI t], LP g] (likR p t g) := by
  have kn := fun h h' K => k46 (h := h) (h' := h') (K := K) p t hp ht
  have n20 : ¬ (2 : Int) = 0 := by decide
  cases h1 : netB p t with
  | false =>
    have hr : likR p t g = .tup [LI [], .agg [I 0, I 0], I 2] := by simp [likR, h1]
    refine Con_intro Try.func37 rfl ok37 (Nat.le_of_ble_eq_true rfl) rfl ?_
    simp only [Try.f37, Option.getD_some, initSt2]
    simp (disch := first | (simp only [go_sem, Bool.and_self, eq_self]; done) | omega | (simp only [List.length_cons, List.length_nil]; omega)) only [go_sem, ↓reduceIte, Nat.reduceEqDiff, Nat.reduceAdd, Nat.reduceMul, Nat.reduceSub, Int.reduceToNat, Nat.reduceBEq, List.size_toArray, List.length_cons, List.length_nil, Bool.false_and, Bool.true_and, Bool.or_false, Bool.false_or, Bool.and_false, Bool.and_true, kn, netR_f h1, n20, hr]
    rfl
  | true =>
  have N := Net.of h1
  have hn1 := N.n1
  refine Con_intro Try.func37 rfl ok37 (Nat.le_of_ble_eq_true rfl) rfl ?_
  simp only [Try.f37, Option.getD_some, initSt2]
  simp (disch := first | (simp only [go_sem, Bool.and_self, eq_self]; done) | omega | (simp only [List.length_cons, List.length_nil]; omega)) only [go_sem, ↓reduceIte, Nat.reduceEqDiff, Nat.reduceAdd, Nat.reduceMul, Nat.reduceSub, Int.reduceToNat, Nat.reduceBEq, List.size_toArray, List.length_cons, List.length_nil, Bool.false_and, Bool.true_and, Bool.or_false, Bool.false_or, Bool.and_false, Bool.and_true, kn, netR_t h1]
  refine CallW_shrE shr54 (f54_shr p t p.length (by omega) g hg _) ?_
  rintro v hA ⟨nA, fA, cA⟩
  have a1 := fA 1 (by show 1 < 3; omega)
  have a2 := fA 2 (by show 2 < 3; omega)
  simp (disch := first | (simp only [go_sem, Bool.and_self, eq_self]; done) | omega | (simp only [List.length_cons, List.length_nil]; omega)) only [go_sem, ↓reduceIte, Nat.reduceEqDiff, Nat.reduceAdd, Nat.reduceMul, Nat.reduceSub, Int.reduceToNat, Nat.reduceBEq, List.size_toArray, List.length_cons, List.length_nil, Bool.false_and, Bool.true_and, Bool.or_false, Bool.false_or, Bool.and_false, Bool.and_true] at a1 a2 nA cA
  rcases cA with ⟨q1, rfl, q3, q4⟩ | ⟨q1, rfl⟩
  case inr =>
    have hr : likR p t g = .tup [LI [], .agg [I 0, I 0], I 2] := by simp [likR, h1, refL, q1]
    simp (disch := first | (simp only [go_sem, Bool.and_self, eq_self]; done) | omega | (simp only [List.length_cons, List.length_nil]; omega)) only [go_sem, ↓reduceIte, Nat.reduceEqDiff, Nat.reduceAdd, Nat.reduceMul, Nat.reduceSub, Int.reduceToNat, Nat.reduceBEq, List.size_toArray, List.length_cons, List.length_nil, Bool.false_and, Bool.true_and, Bool.or_false, Bool.false_or, Bool.and_false, Bool.and_true, a1, n20, hr]
    rfl
  have b4 : hA.bl 4 = some (.mp false (entF g)) := q4
  have l4 : 4 < hA.nx := q3
  have d0 : ¬ 1 = hA.nx := by omega
  have d1 : ¬ 2 = hA.nx := by omega
  have d2 : ¬ 4 = hA.nx := by omega
  have hal : ∀ g' : Hp, allocB g' (some (.mp 4)) = some (.ptr g'.nx 0, g'.alloc (.cells false false [.mp 4])) := fun _ => rfl
  have hal3 := fun h => allocB_flat (h := h) (List.replicate 10 (0 : Int))
  have d3 : ¬ hA.nx = 1 := by omega
  have d4 : ¬ hA.nx = 3 := by omega
  have d5 : ¬ hA.nx = 0 := by omega
  have hal4 : ∀ g' : Hp, allocB g' (some (.agg ((List.replicate 10 (0 : Int)).flatMap (e1 I)))) = some (.ptr g'.nx 0, g'.alloc (.cells false false ((List.replicate 10 (0 : Int)).flatMap (e1 I)))) := hal3
  let H : Hp := ((hA.alloc (.cells false false [I 0])).put hA.nx (some (.cells false false [I 0]))).alloc (.cells false false ((List.replicate 10 (0 : Int)).flatMap (e1 I)))
  have hHb : ∀ id, id < hA.nx → H.bl id = hA.bl id := fun id hid => by simp [H, Hp.alloc, Hp.put, show ¬ id = hA.nx by omega, show ¬ id = hA.nx + 1 by omega]
  obtain ⟨h', hs, xs', hg⟩ := f64_shr (H := H) (likEnv N g hA.nx H.nx l4 rfl) hn1.2 hal (fun h5 g1 g2 g3 g4 g5 g6 g7 => by
    have hH : H.nx = hA.nx + 2 := rfl
    refine ⟨by omega, rfl, by simp, ?_, ?_, ?_, ?_, ?_, g3, g4, g5, g6, g7⟩
    · rw [g2 _ (by omega), hHb _ (by omega)]; exact a1
    · rw [g2 _ (by omega), hHb _ (by omega)]; exact a2
    · rw [g2 _ (by omega), hHb _ (by omega)]; exact b4
    · rw [g2 _ (by omega)]; simp [H, Hp.alloc, Hp.put, bestV]
    · rw [g2 _ (by omega)]; simp [H, Hp.alloc, Hp.put, bestV, ten])
  have hc := fun K => CallW_shr (K := K) 64 _ shr64 hs
  simp (disch := first | (simp only [go_sem, Bool.and_self, eq_self]; done) | omega | (simp only [List.length_cons, List.length_nil]; omega)) only [go_sem, ↓reduceIte, Nat.reduceEqDiff, Nat.reduceAdd, Nat.reduceMul, Nat.reduceSub, Int.reduceToNat, Nat.reduceBEq, List.size_toArray, List.length_cons, List.length_nil, Bool.false_and, Bool.true_and, Bool.or_false, Bool.false_or, Bool.and_false, Bool.and_true, a1, a2, d0, d1, d2, d3, d4, d5, z10, hal3]
  refine Eq.mpr (hc _) ?_
  have hbv := best_vis (t := t) q1
  have c1 := hg.b1
  have c2 := hg.b2
  have cA := hg.bA
  have cR := hg.bR
  rw [hbv] at cA cR
  have cnx : hA.nx + 7 ≤ h'.nx := hg.nx
  obtain ⟨z0, z1⟩ := bestN_bounds N g (2 ^ p.length)
  by_cases hz : (bestN p t g (2 ^ p.length)).1 = 0
  · have hr : likR p t g = .tup [LI [], .agg [I 0, I 0], I 6] := by simp [likR, h1, refL, q1, hz]
    rw [hz] at cA
    simp (disch := first | (simp only [go_sem, Bool.and_self, eq_self]; done) | omega | (simp only [List.length_cons, List.length_nil]; omega)) only [go_sem, ↓reduceIte, Nat.reduceEqDiff, Nat.reduceAdd, Nat.reduceMul, Nat.reduceSub, Int.reduceToNat, Nat.reduceBEq, List.size_toArray, List.length_cons, List.length_nil, Bool.false_and, Bool.true_and, Bool.or_false, Bool.false_or, Bool.and_false, Bool.and_true, cA, c1, hr]
    rfl
  rcases bestN_row (p := p) (t := t) g (2 ^ p.length) with ⟨h, _⟩ | ⟨y, y1, y2, y3⟩
  · exact absurd h hz
  have hr : likR p t g = .tup [LI (rowN p.length y), redu (weightB p t (rowN p.length y) p.length) (16 ^ p.length), I 0] := by
    simp only [likR, h1, if_true, refL, q1, hz, if_false, y2]; rw [y3]
  rw [y2] at cR
  rw [y3] at cA hz z0 z1
  have hrl : (ten (rowN p.length y)).length = 10 := ten_len (by rw [rowN_len]; omega)
  have htk : (ten (rowN p.length y)).take p.length = rowN p.length y := by
    unfold ten
    rw [List.take_append_of_le_length (by rw [rowN_len]; omega), List.take_of_length_le (by rw [rowN_len]; omega)]
  have hse := fun h => sealSl_part (h := h) (hA.nx + 1) p.length false false (ten (rowN p.length y)) (by omega)
  rw [htk] at hse
  have kcl := fun h h' K => ConW_any (h := h) (h' := h') (K := K) (f66_con (rowN p.length y) (by rw [rowN_len]; omega) (by rw [rowN_len]; omega)) rfl
  have hsl := fun h lim => sliceC_to (hA.nx + 1) false (ten (rowN p.length y)) p.length hrl (by omega) (by omega)
  have kw := fun h h' K => k52 (h := h) (h' := h') (K := K) p t p.length hn1.2
  have hpw := pow16_le (Nat.le_refl p.length) hn1.2
  have hp0 : (0 : Int) < 16 ^ p.length := Int.pow_pos (by decide)
  have kr := fun h h' K => k50 (h := h) (h' := h') (K := K) (weightB p t (rowN p.length y) p.length) (16 ^ p.length) (by omega) (by omega)
  have e0 : 1 < h'.nx := by omega
  have e1' : 2 < h'.nx := by omega
  have e2 : hA.nx < h'.nx := by omega
  have e3 : hA.nx + 1 < h'.nx := by omega
  simp (disch := first | (simp only [go_sem, Bool.and_self, eq_self]; done) | omega | (simp only [List.length_cons, List.length_nil]; omega)) only [go_sem, ↓reduceIte, Nat.reduceEqDiff, Nat.reduceAdd, Nat.reduceMul, Nat.reduceSub, Int.reduceToNat, Nat.reduceBEq, List.size_toArray, List.length_cons, List.length_nil, Bool.false_and, Bool.true_and, Bool.or_false, Bool.false_or, Bool.and_false, Bool.and_true, cA, hz]
  have u1 : ¬ hA.nx = h'.nx := by omega
  have u2 : ¬ hA.nx = hA.nx + 1 := by omega
  have u3 : ¬ 2 = h'.nx := by omega
  have u4 : ¬ 1 = h'.nx := by omega
  have u5 : ¬ h'.nx = 1 := by omega
  have hso := fun h => sealSl_own (h := h) (f := e1 I) (sz := 1) h'.nx (((rowN p.length y).flatMap (e1 I)).length / 1) false true (rowN p.length y) (by rw [flat_len, Nat.div_one])
  simp (disch := first | (simp only [go_sem, Bool.and_self, eq_self]; done) | omega | (simp only [List.length_cons, List.length_nil]; omega)) only [go_sem, ↓reduceIte, Nat.reduceEqDiff, Nat.reduceAdd, Nat.reduceMul, Nat.reduceSub, Int.reduceToNat, Nat.reduceBEq, List.size_toArray, List.length_cons, List.length_nil, Bool.false_and, Bool.true_and, Bool.or_false, Bool.false_or, Bool.and_false, Bool.and_true, cA, cR, c1, c2, hse, kcl, hsl, kw, kr, e0, e1', e2, e3, d0, d1, d2, d3, d4, d5, Int.toNat_natCast, u1, u2, u3, u4, u5, hso, hr]

end Go.Proofs.Ytpkakapbepkfdaa

set_option linter.unusedVariables false
set_option linter.unusedSimpArgs false
set_option maxRecDepth 10000
namespace Go.Proofs.Ytpkakapbepkfdaa
open Go Go.Am

variable {h h' : Hp} {K : AV → Hp → Prop}

end Go.Proofs.Ytpkakapbepkfdaa

set_option linter.unusedVariables false
set_option linter.unusedSimpArgs false
set_option maxRecDepth 10000
namespace Go.Proofs.Ytpkakapbepkfdaa
open Go Go.Am

variable {h h' : Hp} {K : AV → Hp → Prop}

/-- The row that is found is the first of the best ones. -/
theorem bestN_max {p t : List (List Int)} (f : List (Int × Int)) : ∀ x y, y < x → agreeB (rowN p.length y) f = true → weightB p t (rowN p.length y) p.length ≤ (bestN p t f x).1 := by
  intro x
  induction x with
  | zero => intro y hy; omega
  | succ x ih =>
    intro y hy ha
    rw [bestN]
    rcases Nat.lt_or_ge y x with h | h
    · have := ih y h ha
      split
      · rename_i hc
        simp only [Bool.and_eq_true, decide_eq_true_eq] at hc
        show _ ≤ weightB p t (rowN p.length x) p.length
        omega
      · exact this
    · have hyx : y = x := by omega
      subst hyx
      rw [ha, Bool.true_and]
      split
      · exact Int.le_refl _
      · rename_i hc
        simp only [decide_eq_true_eq] at hc
        omega
end Go.Proofs.Ytpkakapbepkfdaa

set_option linter.unusedVariables false
set_option linter.unusedSimpArgs false
set_option maxRecDepth 10000
namespace Go.Proofs.Ytpkakapbepkfdaa
open Go Go.Am

variable {h h' : Hp} {K : AV → Hp → Prop}

/-- The same answer, with its list handed over. -/
def thawL : AV → AV
  | .tup [.lst a, b, c] => .tup [.fresh 1 a.flatten, b, c]
  | v => v
def offD : List Nat := [15, 41, 70, 55]
open Classical in
noncomputable def extD (f : FuncId) (args : List AV) : Option AV :=
  if offD.contains f = true then none
  else if f = 37 then (if h : ∃ r, Con Try.prog cfg 37 args r ∧ PureOk Try.prog 37 args (thawL r) then some (thawL h.choose) else none)
  else if h : ∃ r, Con Try.prog cfgX f args r then some h.choose else none
noncomputable def cfgD : Cfg := { cfg with ext := extD, own := fun f => f == 66 || (f == 41 || f == 37), keepNil := fun f => f == 41, shared := fun f => f == 70, deep := true, strict := fun _ _ => false, wr := fun _ _ => [] }
theorem pureX1 : ∀ f args r, cfgX.ext f args = some r → cfgX.own f = false → r.isPure = true := fun f args r he ho => (hextX f args r he).2 ho
theorem hextD : ExtOk Try.prog cfgD := by
  intro f args r he
  have he : extD f args = some r := he
  unfold extD at he
  split at he
  · cases he
  rename_i hoff
  split at he
  · rename_i e37
    split at he
    · rename_i h
      cases he
      rw [e37]
      exact ⟨h.choose_spec.2, fun h2 => by cases h2⟩
    · cases he
  · split at he
    · rename_i h
      cases he
      obtain ⟨k, hk⟩ := h.choose_spec
      refine ⟨(sound hextX k).2.2.1 _ _ _ hk, fun ho => callP_pure (P := Try.prog) (cfg := cfgX) pureX1 ?_ hk⟩
      have ho : (f == 66 || (f == 41 || f == 37)) = false := ho
      show (f == 66 || f == 55) = false
      have h55 : (f == 55) = false := by
        cases hq : (f == 55) with
        | false => rfl
        | true =>
          have : f = 55 := by simpa using hq
          subst this
          exact absurd rfl hoff
      simp only [Bool.or_eq_false_iff] at ho ⊢
      exact ⟨ho.1, h55⟩
    · cases he
theorem toD {f : FuncId} {args : List AV} {r : AV} (hb : (offD.contains f || decide (f = 37)) = false) (hc : Con Try.prog cfgX f args r) : Con Try.prog cfgD f args r := by
  simp only [Bool.or_eq_false_iff, decide_eq_false_iff_not] at hb
  refine ⟨1, ?_⟩
  have : extD f args = some r := by
    unfold extD
    have hex : ∃ r, Con Try.prog cfgX f args r := ⟨r, hc⟩
    rw [if_neg (by rw [hb.1]; decide), if_neg hb.2, dif_pos hex]
    obtain ⟨k, hk⟩ := hex.choose_spec
    obtain ⟨k', hk'⟩ := hc
    rw [callP_det hk hk']
  show (match extD f args with | some r => some r | none => _) = _
  rw [this]
theorem thawD {args : List AV} {r : AV} (hc : Con Try.prog cfg 37 args r) (hp : PureOk Try.prog 37 args (thawL r)) : Con Try.prog cfgD 37 args (thawL r) := by
  refine ⟨1, ?_⟩
  have : extD 37 args = some (thawL r) := by
    unfold extD
    have hex : ∃ r, Con Try.prog cfg 37 args r ∧ PureOk Try.prog 37 args (thawL r) := ⟨r, hc, hp⟩
    rw [if_neg (by decide), if_pos rfl, dif_pos hex]
    obtain ⟨k, hk⟩ := hex.choose_spec.1
    obtain ⟨k', hk'⟩ := hc
    rw [callP_det hk hk']
  show (match extD 37 args with | some r => some r | none => _) = _
  rw [this]
@[go_sem] theorem cfgD_deep : cfgD.deep = true := by kernel_rfl
@[go_sem] theorem kD20 : ConW Try.prog cfgD 20 h (some ([], h')) K = K (.bool true) h := ConW_num (toD (by decide) awake_con) rfl
@[go_sem] theorem cfgD_strict (a b : Nat) : cfgD.strict a b = false := rfl
@[go_sem] theorem cfgD_wr (a b : Nat) : cfgD.wr a b = [] := rfl
@[go_sem] theorem shrD15 : cfgD.shared 15 = false := by kernel_rfl
@[go_sem] theorem shrD16 : cfgD.shared 16 = false := by kernel_rfl
@[go_sem] theorem shrD20 : cfgD.shared 20 = false := by kernel_rfl
@[go_sem] theorem shrD30 : cfgD.shared 30 = false := by kernel_rfl
@[go_sem] theorem shrD31 : cfgD.shared 31 = false := by kernel_rfl
@[go_sem] theorem shrD37 : cfgD.shared 37 = false := by kernel_rfl
@[go_sem] theorem shrD38 : cfgD.shared 38 = false := by kernel_rfl
@[go_sem] theorem shrD39 : cfgD.shared 39 = false := by kernel_rfl
@[go_sem] theorem shrD41 : cfgD.shared 41 = false := by kernel_rfl
@[go_sem] theorem shrD43 : cfgD.shared 43 = false := by kernel_rfl
@[go_sem] theorem shrD46 : cfgD.shared 46 = false := by kernel_rfl
@[go_sem] theorem shrD49 : cfgD.shared 49 = false := by kernel_rfl
@[go_sem] theorem shrD66 : cfgD.shared 66 = false := by kernel_rfl
@[go_sem] theorem shrD70 : cfgD.shared 70 = true := by kernel_rfl
@[go_sem] theorem cfgD_own (f : Nat) : cfgD.own f = (f == 66 || (f == 41 || f == 37)) := rfl
@[go_sem] theorem cfgD_kn (f : Nat) : cfgD.keepNil f = (f == 41) := rfl
theorem okD15 : funcOk cfgD Try.f15 (Try.f15.body.getD .skip) = true := by kernel_rfl
theorem okD41 : funcOk cfgD Try.f41 (Try.f41.body.getD .skip) = true := by kernel_rfl
theorem okD70 : funcOk cfgD Try.f70 (Try.f70.body.getD .skip) = true := by kernel_rfl
theorem kD66 (r : List Int) (hr : r.length ≤ 10) : ConW Try.prog cfgD 66 h (some ([LI r], h')) K = K (.sl h'.nx 0 r.length 1) (h'.alloc (.cells false true (r.flatMap (e1 I)))) := by
  rw [ConW_any (toD (by decide) (clone_con r hr)) rfl, importR_fresh, flat_len, Nat.div_one]
end Go.Proofs.Ytpkakapbepkfdaa

set_option linter.unusedVariables false
set_option linter.unusedSimpArgs false
set_option maxRecDepth 10000
namespace Go.Proofs.Ytpkakapbepkfdaa
open Go Go.Am

variable {h h' : Hp} {K : AV → Hp → Prop}

/-- The memory of 'force'. -/
structure FD (H : Hp) (p t : List (List Int)) (pv tv : AV) (cs ds : List AV) (h : Hp) : Prop where
  nx : H.nx + 3 ≤ h.nx
  lo : ∀ i, i < H.nx → h.bl i = H.bl i
  b0 : h.bl H.nx = some (.cells false false [LLI p, LLI t, I p.length])
  b1 : h.bl (H.nx + 1) = some (.cells false false [.nil, .nil])
  b2 : h.bl (H.nx + 2) = some (.cells false false [pv, tv])
  ln : LN (H.nx + 3) h pv tv cs ds
theorem bsD_nil (h : Hp) : bsD Try.prog h (some (.slice 25)) 1 [(0, .nil)] = some (.sl h.nx 0 1 1, h.alloc (.cells false true [.nil])) := bsD_one 25 .nil .nil isz25 izero25 rfl rfl rfl rfl rfl
theorem bsD_sl (h : Hp) (q n : Nat) : bsD Try.prog h (some (.slice 25)) 1 [(0, .sl q 0 n 1)] = some (.sl h.nx 0 1 1, h.alloc (.cells false true [.sl q 0 n 1])) := bsD_one 25 (.sl q 0 n 1) .nil isz25 izero25 rfl rfl rfl rfl rfl
theorem bsD_int (h : Hp) (x : Int) : bsD Try.prog h (some (.slice 3)) 1 [(0, I x)] = some (.sl h.nx 0 1 1, h.alloc (.cells false true [I x])) := bsD_one 3 (I x) (I 0) isz3 izero3 rfl rfl rfl rfl rfl
/-- One row more in the first list. -/
theorem FD.step1 {H h0 : Hp} {p t : List (List Int)} {pv tv c : AV} {cs ds : List AV} (F : FD H p t pv tv cs ds h0) (hn : h0.nx ≤ h.nx) (hb : ∀ i, i < h0.nx → h.bl i = h0.bl i) (hc : NewRow (H.nx + 3) h c h0.nx) (hl : cs.length ≤ 1000) :
    ∃ V H2, appB Try.prog (h.alloc (.cells false true [c])) (some (.slice 25)) true pv (.sl h.nx 0 1 1) = some (V, H2) ∧ V.cells = [V] ∧ V.isCell = true ∧ H2.bl (H.nx + 2) = some (.cells false false [pv, tv]) ∧ (∀ g, storeC g (H.nx + 2) 0 1 (some (.cells false false [pv, tv])) [V] = some (.skp, g.put (H.nx + 2) (some (.cells false false [V, tv])))) ∧
      FD H p t V tv (cs ++ [c]) ds (H2.put (H.nx + 2) (some (.cells false false [V, tv]))) := by
  have hF := F.nx
  obtain ⟨H2, k1, k2, k3, k4⟩ := F.ln.step (P := Try.prog) (h := h) hn (fun i _ hi => hb i hi) hc (by omega) 25 isz25 ibytes25 izero25 hl
  have lo : ∀ i, i < H.nx + 3 → H2.bl i = h0.bl i := fun i hi => (k4 i hi).trans (hb i (by omega))
  have ct := F.ln.lt.cell
  have cp := F.ln.lp.cell
  refine ⟨_, H2, k1, rfl, rfl, (lo _ (by omega)).trans F.b2, fun g => by simp [storeC, setL, AV.isCell, cp, ct], ⟨?_, fun i hi => ?_, ?_, ?_, ?_, ?_⟩⟩
  · show H.nx + 3 ≤ H2.nx; omega
  · rw [put_bl, if_neg (by omega), lo i (by omega)]; exact F.lo i hi
  · rw [put_bl, if_neg (by omega)]; exact (lo _ (by omega)).trans F.b0
  · rw [put_bl, if_neg (by omega)]; exact (lo _ (by omega)).trans F.b1
  · rw [put_bl, if_pos rfl]
  · exact k3.keep (Nat.le_refl _) fun i hi _ => by rw [put_bl, if_neg (by omega)]
theorem FD.step2 {H h0 : Hp} {p t : List (List Int)} {pv tv c : AV} {cs ds : List AV} (F : FD H p t pv tv cs ds h0) (hn : h0.nx ≤ h.nx) (hb : ∀ i, i < h0.nx → h.bl i = h0.bl i) (hc : NewRow (H.nx + 3) h c h0.nx) (hl : ds.length ≤ 1000) :
    ∃ V H2, appB Try.prog (h.alloc (.cells false true [c])) (some (.slice 25)) true tv (.sl h.nx 0 1 1) = some (V, H2) ∧ V.cells = [V] ∧ V.isCell = true ∧ H2.bl (H.nx + 2) = some (.cells false false [pv, tv]) ∧ (∀ g, storeC g (H.nx + 2) 1 1 (some (.cells false false [pv, tv])) [V] = some (.skp, g.put (H.nx + 2) (some (.cells false false [pv, V])))) ∧
      FD H p t pv V cs (ds ++ [c]) (H2.put (H.nx + 2) (some (.cells false false [pv, V]))) := by
  have hF := F.nx
  obtain ⟨H2, k1, k2, k3, k4⟩ := F.ln.swap.step (P := Try.prog) (h := h) hn (fun i _ hi => hb i hi) hc (by omega) 25 isz25 ibytes25 izero25 hl
  have lo : ∀ i, i < H.nx + 3 → H2.bl i = h0.bl i := fun i hi => (k4 i hi).trans (hb i (by omega))
  have ct := F.ln.lt.cell
  have cp := F.ln.lp.cell
  refine ⟨_, H2, k1, rfl, rfl, (lo _ (by omega)).trans F.b2, fun g => by simp [storeC, setL, AV.isCell, cp, ct], ⟨?_, fun i hi => ?_, ?_, ?_, ?_, ?_⟩⟩
  · show H.nx + 3 ≤ H2.nx; omega
  · rw [put_bl, if_neg (by omega), lo i (by omega)]; exact F.lo i hi
  · rw [put_bl, if_neg (by omega)]; exact (lo _ (by omega)).trans F.b0
  · rw [put_bl, if_neg (by omega)]; exact (lo _ (by omega)).trans F.b1
  · rw [put_bl, if_pos rfl]
  · exact k3.swap.keep (Nat.le_refl _) fun i hi _ => by rw [put_bl, if_neg (by omega)]
theorem new_nil (B : Nat) (h : Hp) (N : Nat) : NewRow B h .nil N := ⟨.inl rfl, by simp [rowIds]⟩
theorem new_row (B : Nat) (h : Hp) (r : List Int) (hB : B ≤ h.nx) (hr : r.length ≤ 1000) : NewRow B (h.alloc (.cells false true (r.flatMap (e1 I)))) (.sl h.nx 0 r.length 1) h.nx :=
  ⟨.inr ⟨h.nx, r, rfl, by simp [Hp.alloc], by simp [Hp.alloc], hr⟩, fun a ha => by simp only [rowIds, List.mem_singleton] at ha; omega⟩
theorem alloc_lo (h : Hp) (b : Blk) : ∀ i, i < h.nx → (h.alloc b).bl i = h.bl i := fun i hi => by simp [Hp.alloc, show ¬ i = h.nx by omega]

set_option maxHeartbeats 1000000 in
theorem f70_shrD (p t : List (List Int)) (N : Net p t) (v : Nat) (hv : v < p.length) (x : Int) (hx : 0 ≤ x ∧ x ≤ 1) (H : Hp) :
    ∃ w H', Shr Try.prog cfgD 70 [.agg [LLI p, LLI t, I p.length], I v, I x] H w H' ∧ ∃ pv tv cs ds, w = .agg [pv, tv] ∧ LN (H.nx + 3) H' pv tv cs ds ∧ cs.length = p.length ∧ ds.length = p.length ∧ H.nx + 3 ≤ H'.nx ∧ ∀ i, i < H.nx → H'.bl i = H.bl i := by
  have hn1 := N.n1
  have hal : ∀ g : Hp, allocB g (some (.agg [LLI p, LLI t, I p.length])) = some (.ptr g.nx 0, g.alloc (.cells false false [LLI p, LLI t, I p.length])) := fun g => allocB_agg _ rfl
  have hal2 : ∀ g : Hp, allocB g (some (.agg [.nil, .nil])) = some (.ptr g.nx 0, g.alloc (.cells false false [.nil, .nil])) := fun g => allocB_agg _ rfl
  refine Shr_intro Try.func70 rfl okD70 (Nat.le_of_ble_eq_true rfl) ?_
  simp only [Try.f70, Option.getD_some, initSt3]
  simp (disch := first | (simp only [go_sem, Bool.and_self, eq_self]; done) | omega | (simp only [List.length_cons, List.length_nil]; omega)) only [go_sem, ↓reduceIte, Nat.reduceEqDiff, Nat.reduceAdd, Nat.reduceMul, Nat.reduceSub, Int.reduceToNat, Nat.reduceBEq, List.size_toArray, List.length_cons, List.length_nil, Bool.false_and, Bool.true_and, Bool.or_false, Bool.false_or, Bool.and_false, Bool.and_true, hal, hal2, ↓stopZ 2 false]
  refine WPz_go (fun st h => (st 1 = I v ∧ st 2 = I x ∧ st 3 = .ptr H.nx 0 ∧ st 6 = .ptr (H.nx + 1) 0 ∧ st 7 = .ptr (H.nx + 2) 0) ∧ FD H p t .nil .nil [] [] h)
    ⟨⟨by simp (disch := first | (simp only [go_sem, Bool.and_self, eq_self]; done) | omega | (simp only [List.length_cons, List.length_nil]; omega)) only [go_sem, ↓reduceIte, Nat.reduceEqDiff, Nat.reduceAdd, Nat.reduceMul, Nat.reduceSub, Int.reduceToNat, Nat.reduceBEq, List.size_toArray, List.length_cons, List.length_nil, Bool.false_and, Bool.true_and, Bool.or_false, Bool.false_or, Bool.and_false, Bool.and_true], by simp (disch := first | (simp only [go_sem, Bool.and_self, eq_self]; done) | omega | (simp only [List.length_cons, List.length_nil]; omega)) only [go_sem, ↓reduceIte, Nat.reduceEqDiff, Nat.reduceAdd, Nat.reduceMul, Nat.reduceSub, Int.reduceToNat, Nat.reduceBEq, List.size_toArray, List.length_cons, List.length_nil, Bool.false_and, Bool.true_and, Bool.or_false, Bool.false_or, Bool.and_false, Bool.and_true], by simp (disch := first | (simp only [go_sem, Bool.and_self, eq_self]; done) | omega | (simp only [List.length_cons, List.length_nil]; omega)) only [go_sem, ↓reduceIte, Nat.reduceEqDiff, Nat.reduceAdd, Nat.reduceMul, Nat.reduceSub, Int.reduceToNat, Nat.reduceBEq, List.size_toArray, List.length_cons, List.length_nil, Bool.false_and, Bool.true_and, Bool.or_false, Bool.false_or, Bool.and_false, Bool.and_true], by simp (disch := first | (simp only [go_sem, Bool.and_self, eq_self]; done) | omega | (simp only [List.length_cons, List.length_nil]; omega)) only [go_sem, ↓reduceIte, Nat.reduceEqDiff, Nat.reduceAdd, Nat.reduceMul, Nat.reduceSub, Int.reduceToNat, Nat.reduceBEq, List.size_toArray, List.length_cons, List.length_nil, Bool.false_and, Bool.true_and, Bool.or_false, Bool.false_or, Bool.and_false, Bool.and_true], by simp (disch := first | (simp only [go_sem, Bool.and_self, eq_self]; done) | omega | (simp only [List.length_cons, List.length_nil]; omega)) only [go_sem, ↓reduceIte, Nat.reduceEqDiff, Nat.reduceAdd, Nat.reduceMul, Nat.reduceSub, Int.reduceToNat, Nat.reduceBEq, List.size_toArray, List.length_cons, List.length_nil, Bool.false_and, Bool.true_and, Bool.or_false, Bool.false_or, Bool.and_false, Bool.and_true]⟩, ⟨by simp [Hp.alloc], fun i hi => by simp [Hp.alloc, show ¬ i = H.nx by omega, show ¬ i = H.nx + 1 by omega, show ¬ i = H.nx + 2 by omega], (by simp [Hp.alloc]; try omega), (by simp [Hp.alloc]; try omega), (by simp [Hp.alloc]; try omega), ⟨.inl ⟨rfl, rfl⟩, .inl ⟨rfl, rfl⟩, by simp, by simp, by simp [cnt4, rowIds], by simp [cnt4, rowIds]⟩⟩⟩ ?_
  rintro st h ⟨⟨s1, s2, s3, s6, s7⟩, F⟩
  have b0 := F.b0
  simp (disch := first | (simp only [go_sem, Bool.and_self, eq_self]; done) | omega | (simp only [List.length_cons, List.length_nil]; omega)) only [go_sem, ↓reduceIte, Nat.reduceEqDiff, Nat.reduceAdd, Nat.reduceMul, Nat.reduceSub, Int.reduceToNat, Nat.reduceBEq, List.size_toArray, List.length_cons, List.length_nil, Bool.false_and, Bool.true_and, Bool.or_false, Bool.false_or, Bool.and_false, Bool.and_true, s1, s2, s3, s6, s7, b0]
  refine WP_cut (fun st h => st 1 = I v ∧ st 2 = I x ∧ st 3 = .ptr H.nx 0 ∧ st 6 = .ptr (H.nx + 1) 0 ∧ st 7 = .ptr (H.nx + 2) 0 ∧ st 10 = I p.length ∧ ∃ pv tv cs ds, FD H p t pv tv cs ds h ∧ cs.length = p.length ∧ ds.length = p.length) ?_ ?_
  · refine WP_for 11 p.length (fun i st h => st 1 = I v ∧ st 2 = I x ∧ st 3 = .ptr H.nx 0 ∧ st 6 = .ptr (H.nx + 1) 0 ∧ st 7 = .ptr (H.nx + 2) 0 ∧ st 10 = I p.length ∧ ∃ pv tv cs ds, FD H p t pv tv cs ds h ∧ cs.length = i ∧ ds.length = i) (by simp (disch := first | (simp only [go_sem, Bool.and_self, eq_self]; done) | omega | (simp only [List.length_cons, List.length_nil]; omega)) only [go_sem, ↓reduceIte, Nat.reduceEqDiff, Nat.reduceAdd, Nat.reduceMul, Nat.reduceSub, Int.reduceToNat, Nat.reduceBEq, List.size_toArray, List.length_cons, List.length_nil, Bool.false_and, Bool.true_and, Bool.or_false, Bool.false_or, Bool.and_false, Bool.and_true]) ⟨by simp (disch := first | (simp only [go_sem, Bool.and_self, eq_self]; done) | omega | (simp only [List.length_cons, List.length_nil]; omega)) only [go_sem, ↓reduceIte, Nat.reduceEqDiff, Nat.reduceAdd, Nat.reduceMul, Nat.reduceSub, Int.reduceToNat, Nat.reduceBEq, List.size_toArray, List.length_cons, List.length_nil, Bool.false_and, Bool.true_and, Bool.or_false, Bool.false_or, Bool.and_false, Bool.and_true, s1], by simp (disch := first | (simp only [go_sem, Bool.and_self, eq_self]; done) | omega | (simp only [List.length_cons, List.length_nil]; omega)) only [go_sem, ↓reduceIte, Nat.reduceEqDiff, Nat.reduceAdd, Nat.reduceMul, Nat.reduceSub, Int.reduceToNat, Nat.reduceBEq, List.size_toArray, List.length_cons, List.length_nil, Bool.false_and, Bool.true_and, Bool.or_false, Bool.false_or, Bool.and_false, Bool.and_true, s2], by simp (disch := first | (simp only [go_sem, Bool.and_self, eq_self]; done) | omega | (simp only [List.length_cons, List.length_nil]; omega)) only [go_sem, ↓reduceIte, Nat.reduceEqDiff, Nat.reduceAdd, Nat.reduceMul, Nat.reduceSub, Int.reduceToNat, Nat.reduceBEq, List.size_toArray, List.length_cons, List.length_nil, Bool.false_and, Bool.true_and, Bool.or_false, Bool.false_or, Bool.and_false, Bool.and_true, s3], by simp (disch := first | (simp only [go_sem, Bool.and_self, eq_self]; done) | omega | (simp only [List.length_cons, List.length_nil]; omega)) only [go_sem, ↓reduceIte, Nat.reduceEqDiff, Nat.reduceAdd, Nat.reduceMul, Nat.reduceSub, Int.reduceToNat, Nat.reduceBEq, List.size_toArray, List.length_cons, List.length_nil, Bool.false_and, Bool.true_and, Bool.or_false, Bool.false_or, Bool.and_false, Bool.and_true, s6], by simp (disch := first | (simp only [go_sem, Bool.and_self, eq_self]; done) | omega | (simp only [List.length_cons, List.length_nil]; omega)) only [go_sem, ↓reduceIte, Nat.reduceEqDiff, Nat.reduceAdd, Nat.reduceMul, Nat.reduceSub, Int.reduceToNat, Nat.reduceBEq, List.size_toArray, List.length_cons, List.length_nil, Bool.false_and, Bool.true_and, Bool.or_false, Bool.false_or, Bool.and_false, Bool.and_true, s7], by simp (disch := first | (simp only [go_sem, Bool.and_self, eq_self]; done) | omega | (simp only [List.length_cons, List.length_nil]; omega)) only [go_sem, ↓reduceIte, Nat.reduceEqDiff, Nat.reduceAdd, Nat.reduceMul, Nat.reduceSub, Int.reduceToNat, Nat.reduceBEq, List.size_toArray, List.length_cons, List.length_nil, Bool.false_and, Bool.true_and, Bool.or_false, Bool.false_or, Bool.and_false, Bool.and_true], .nil, .nil, [], [], F, rfl, rfl⟩ ?_
    clear s1 s2 s3 s6 s7 b0 F
    rintro i st h hi s11 ⟨s1, s2, s3, s6, s7, s10, pv, tv, cs, ds, F, hc, hd⟩
    by_cases hlt : i < p.length
    case neg =>
      simp (disch := first | (simp only [go_sem, Bool.and_self, eq_self]; done) | omega | (simp only [List.length_cons, List.length_nil]; omega)) only [go_sem, ↓reduceIte, Nat.reduceEqDiff, Nat.reduceAdd, Nat.reduceMul, Nat.reduceSub, Int.reduceToNat, Nat.reduceBEq, List.size_toArray, List.length_cons, List.length_nil, Bool.false_and, Bool.true_and, Bool.or_false, Bool.false_or, Bool.and_false, Bool.and_true, s1, s2, s3, s6, s7, s10, s11, hlt]
      exact ⟨pv, tv, cs, ds, F, by omega, by omega⟩
    have b0 := F.b0
    have b2 := F.b2
    have hF := F.nx
    by_cases hiv : i = v
    · subst hiv
      obtain ⟨V, H2, a1, a2, a3, a4, a5, F2⟩ := F.step1 (Nat.le_refl _) (fun _ _ => rfl) (new_nil _ h h.nx) (by omega)
      have hG2 := F2.b2
      have hGn := F2.nx
      obtain ⟨G, hG⟩ : ∃ G, G = H2.put (H.nx + 2) (some (.cells false false [V, tv])) := ⟨_, rfl⟩
      rw [← hG] at F2 hG2 hGn
      obtain ⟨V', H3, c1, c2, c3, c4, c5, F3⟩ := F2.step2 (h := G.alloc (.cells false true [I (16 * x)])) (c := .sl G.nx 0 1 1) (Nat.le_succ _) (alloc_lo _ _) (new_row _ G [16 * x] (by omega) (by simp)) (by omega)
      rw [alloc_nx] at c1
      have u2 : ¬ H.nx + 2 = G.nx := by omega
      simp (disch := first | (simp only [go_sem, Bool.and_self, eq_self]; done) | omega | (simp only [List.length_cons, List.length_nil]; omega)) only [go_sem, ↓reduceIte, Nat.reduceEqDiff, Nat.reduceAdd, Nat.reduceMul, Nat.reduceSub, Int.reduceToNat, Nat.reduceBEq, List.size_toArray, List.length_cons, List.length_nil, Bool.false_and, Bool.true_and, Bool.or_false, Bool.false_or, Bool.and_false, Bool.and_true, s1, s2, s3, s6, s7, s10, s11, hlt, eq_self, decide_true, b2, bsD_nil, a1, a2, a4, a5, ← hG, hG2, bsD_int, bsD_sl, c1, c2, c4, c5]
      rw [ForK_normal]
      exact ⟨hlt, by simp (disch := first | (simp only [go_sem, Bool.and_self, eq_self]; done) | omega | (simp only [List.length_cons, List.length_nil]; omega)) only [go_sem, ↓reduceIte, Nat.reduceEqDiff, Nat.reduceAdd, Nat.reduceMul, Nat.reduceSub, Int.reduceToNat, Nat.reduceBEq, List.size_toArray, List.length_cons, List.length_nil, Bool.false_and, Bool.true_and, Bool.or_false, Bool.false_or, Bool.and_false, Bool.and_true, s11], by simp (disch := first | (simp only [go_sem, Bool.and_self, eq_self]; done) | omega | (simp only [List.length_cons, List.length_nil]; omega)) only [go_sem, ↓reduceIte, Nat.reduceEqDiff, Nat.reduceAdd, Nat.reduceMul, Nat.reduceSub, Int.reduceToNat, Nat.reduceBEq, List.size_toArray, List.length_cons, List.length_nil, Bool.false_and, Bool.true_and, Bool.or_false, Bool.false_or, Bool.and_false, Bool.and_true, s1], by simp (disch := first | (simp only [go_sem, Bool.and_self, eq_self]; done) | omega | (simp only [List.length_cons, List.length_nil]; omega)) only [go_sem, ↓reduceIte, Nat.reduceEqDiff, Nat.reduceAdd, Nat.reduceMul, Nat.reduceSub, Int.reduceToNat, Nat.reduceBEq, List.size_toArray, List.length_cons, List.length_nil, Bool.false_and, Bool.true_and, Bool.or_false, Bool.false_or, Bool.and_false, Bool.and_true, s2], by simp (disch := first | (simp only [go_sem, Bool.and_self, eq_self]; done) | omega | (simp only [List.length_cons, List.length_nil]; omega)) only [go_sem, ↓reduceIte, Nat.reduceEqDiff, Nat.reduceAdd, Nat.reduceMul, Nat.reduceSub, Int.reduceToNat, Nat.reduceBEq, List.size_toArray, List.length_cons, List.length_nil, Bool.false_and, Bool.true_and, Bool.or_false, Bool.false_or, Bool.and_false, Bool.and_true, s3], by simp (disch := first | (simp only [go_sem, Bool.and_self, eq_self]; done) | omega | (simp only [List.length_cons, List.length_nil]; omega)) only [go_sem, ↓reduceIte, Nat.reduceEqDiff, Nat.reduceAdd, Nat.reduceMul, Nat.reduceSub, Int.reduceToNat, Nat.reduceBEq, List.size_toArray, List.length_cons, List.length_nil, Bool.false_and, Bool.true_and, Bool.or_false, Bool.false_or, Bool.and_false, Bool.and_true, s6], by simp (disch := first | (simp only [go_sem, Bool.and_self, eq_self]; done) | omega | (simp only [List.length_cons, List.length_nil]; omega)) only [go_sem, ↓reduceIte, Nat.reduceEqDiff, Nat.reduceAdd, Nat.reduceMul, Nat.reduceSub, Int.reduceToNat, Nat.reduceBEq, List.size_toArray, List.length_cons, List.length_nil, Bool.false_and, Bool.true_and, Bool.or_false, Bool.false_or, Bool.and_false, Bool.and_true, s7], by simp (disch := first | (simp only [go_sem, Bool.and_self, eq_self]; done) | omega | (simp only [List.length_cons, List.length_nil]; omega)) only [go_sem, ↓reduceIte, Nat.reduceEqDiff, Nat.reduceAdd, Nat.reduceMul, Nat.reduceSub, Int.reduceToNat, Nat.reduceBEq, List.size_toArray, List.length_cons, List.length_nil, Bool.false_and, Bool.true_and, Bool.or_false, Bool.false_or, Bool.and_false, Bool.and_true, s10], V, V', _, _, F3, by simp [hc], by simp [hd]⟩
    · have hiv' : ¬ (i : Int) = v := by omega
      have hl1 := N.pl i hlt
      have hl2 : (nth t i).length ≤ 8 := by rw [N.tt i hlt]; exact Nat.pow_le_pow_right (n := 2) (by decide) hl1
      have hti : i < t.length := by have := N.tl; omega
      have k1 := fun h h' K => kD66 (h := h) (h' := h') (K := K) (nth p i) (by omega)
      have k2 := fun h h' K => kD66 (h := h) (h' := h') (K := K) (nth t i) (by omega)
      obtain ⟨V, H2, a1, a2, a3, a4, a5, F2⟩ := F.step1 (h := h.alloc (.cells false true ((nth p i).flatMap (e1 I)))) (Nat.le_succ _) (alloc_lo _ _) (new_row _ h (nth p i) (by omega) (by omega)) (by omega)
      have hG2 := F2.b2
      have hGn := F2.nx
      have hG0 := F2.b0
      obtain ⟨G, hG⟩ : ∃ G, G = H2.put (H.nx + 2) (some (.cells false false [V, tv])) := ⟨_, rfl⟩
      rw [← hG] at F2 hG2 hGn hG0
      obtain ⟨V', H3, c1, c2, c3, c4, c5, F3⟩ := F2.step2 (h := G.alloc (.cells false true ((nth t i).flatMap (e1 I)))) (Nat.le_succ _) (alloc_lo _ _) (new_row _ G (nth t i) (by omega) (by omega)) (by omega)
      rw [alloc_nx] at a1 c1
      have u0 : ¬ H.nx + 2 = h.nx := by omega
      have u1 : ¬ H.nx = h.nx := by omega
      have u2 : ¬ H.nx + 2 = G.nx := by omega
      have u3 : ¬ H.nx = G.nx := by omega
      have l0 : H.nx < h.nx := by omega
      have l1 : H.nx + 2 < h.nx := by omega
      have l2 : H.nx < G.nx := by omega
      have l3 : H.nx + 2 < G.nx := by omega
      simp (disch := first | (simp only [go_sem, Bool.and_self, eq_self]; done) | omega | (simp only [List.length_cons, List.length_nil]; omega)) only [go_sem, ↓reduceIte, Nat.reduceEqDiff, Nat.reduceAdd, Nat.reduceMul, Nat.reduceSub, Int.reduceToNat, Nat.reduceBEq, List.size_toArray, List.length_cons, List.length_nil, Bool.false_and, Bool.true_and, Bool.or_false, Bool.false_or, Bool.and_false, Bool.and_true, s1, s2, s3, s6, s7, s10, s11, hlt, hiv', b0, b2, l0, l1, l2, l3, u0, u1, u2, u3, hti, k1, bsD_sl, a1, a2, a4, a5, ← hG, hG0, hG2, k2, c1, c2, c4, c5]
      rw [ForK_normal]
      exact ⟨hlt, by simp (disch := first | (simp only [go_sem, Bool.and_self, eq_self]; done) | omega | (simp only [List.length_cons, List.length_nil]; omega)) only [go_sem, ↓reduceIte, Nat.reduceEqDiff, Nat.reduceAdd, Nat.reduceMul, Nat.reduceSub, Int.reduceToNat, Nat.reduceBEq, List.size_toArray, List.length_cons, List.length_nil, Bool.false_and, Bool.true_and, Bool.or_false, Bool.false_or, Bool.and_false, Bool.and_true, s11], by simp (disch := first | (simp only [go_sem, Bool.and_self, eq_self]; done) | omega | (simp only [List.length_cons, List.length_nil]; omega)) only [go_sem, ↓reduceIte, Nat.reduceEqDiff, Nat.reduceAdd, Nat.reduceMul, Nat.reduceSub, Int.reduceToNat, Nat.reduceBEq, List.size_toArray, List.length_cons, List.length_nil, Bool.false_and, Bool.true_and, Bool.or_false, Bool.false_or, Bool.and_false, Bool.and_true, s1], by simp (disch := first | (simp only [go_sem, Bool.and_self, eq_self]; done) | omega | (simp only [List.length_cons, List.length_nil]; omega)) only [go_sem, ↓reduceIte, Nat.reduceEqDiff, Nat.reduceAdd, Nat.reduceMul, Nat.reduceSub, Int.reduceToNat, Nat.reduceBEq, List.size_toArray, List.length_cons, List.length_nil, Bool.false_and, Bool.true_and, Bool.or_false, Bool.false_or, Bool.and_false, Bool.and_true, s2], by simp (disch := first | (simp only [go_sem, Bool.and_self, eq_self]; done) | omega | (simp only [List.length_cons, List.length_nil]; omega)) only [go_sem, ↓reduceIte, Nat.reduceEqDiff, Nat.reduceAdd, Nat.reduceMul, Nat.reduceSub, Int.reduceToNat, Nat.reduceBEq, List.size_toArray, List.length_cons, List.length_nil, Bool.false_and, Bool.true_and, Bool.or_false, Bool.false_or, Bool.and_false, Bool.and_true, s3], by simp (disch := first | (simp only [go_sem, Bool.and_self, eq_self]; done) | omega | (simp only [List.length_cons, List.length_nil]; omega)) only [go_sem, ↓reduceIte, Nat.reduceEqDiff, Nat.reduceAdd, Nat.reduceMul, Nat.reduceSub, Int.reduceToNat, Nat.reduceBEq, List.size_toArray, List.length_cons, List.length_nil, Bool.false_and, Bool.true_and, Bool.or_false, Bool.false_or, Bool.and_false, Bool.and_true, s6], by simp (disch := first | (simp only [go_sem, Bool.and_self, eq_self]; done) | omega | (simp only [List.length_cons, List.length_nil]; omega)) only [go_sem, ↓reduceIte, Nat.reduceEqDiff, Nat.reduceAdd, Nat.reduceMul, Nat.reduceSub, Int.reduceToNat, Nat.reduceBEq, List.size_toArray, List.length_cons, List.length_nil, Bool.false_and, Bool.true_and, Bool.or_false, Bool.false_or, Bool.and_false, Bool.and_true, s7], by simp (disch := first | (simp only [go_sem, Bool.and_self, eq_self]; done) | omega | (simp only [List.length_cons, List.length_nil]; omega)) only [go_sem, ↓reduceIte, Nat.reduceEqDiff, Nat.reduceAdd, Nat.reduceMul, Nat.reduceSub, Int.reduceToNat, Nat.reduceBEq, List.size_toArray, List.length_cons, List.length_nil, Bool.false_and, Bool.true_and, Bool.or_false, Bool.false_or, Bool.and_false, Bool.and_true, s10], V, V', _, _, F3, by simp [hc], by simp [hd]⟩
  · rintro st h ⟨s1, s2, s3, s6, s7, s10, pv, tv, cs, ds, F, hc, hd⟩
    have b1 := F.b1
    have b2 := F.b2
    have ct := F.ln.lt.cell
    have cp := F.ln.lp.cell
    have hF := F.nx
    have hst : ∀ g : Hp, storeC g (H.nx + 1) 0 2 (some (.cells false false [.nil, .nil])) [pv, tv] = some (.skp, g.put (H.nx + 1) (some (.cells false false [pv, tv]))) := fun g => by simp [storeC, setL, cp, ct]
    simp (disch := first | (simp only [go_sem, Bool.and_self, eq_self]; done) | omega | (simp only [List.length_cons, List.length_nil]; omega)) only [go_sem, ↓reduceIte, Nat.reduceEqDiff, Nat.reduceAdd, Nat.reduceMul, Nat.reduceSub, Int.reduceToNat, Nat.reduceBEq, List.size_toArray, List.length_cons, List.length_nil, Bool.false_and, Bool.true_and, Bool.or_false, Bool.false_or, Bool.and_false, Bool.and_true, s1, s2, s3, s6, s7, s10, b1, b2, hst]
    exact ⟨pv, tv, cs, ds, rfl, F.ln.keep (Nat.le_refl _) (fun i hi _ => by rw [put_bl, if_neg (by omega)]), hc, hd, hF, fun i hi => by rw [if_neg (by omega)]; exact F.lo i hi⟩
theorem f41_D (p t : List (List Int)) (h1 : netB p t = true) (v : Nat) (hv : v < p.length) : ∃ r, Con Try.prog cfgD 41 [.agg [LLI p, LLI t], I v, I 1] r ∧ ∃ cs ds, r = .tup [.own (.agg [.fresh 1 cs, .fresh 1 ds]), I 0] ∧ cs.length = p.length ∧ ds.length = p.length ∧ (∀ c ∈ cs, Row2 c) ∧ ∀ d ∈ ds, Row2 d := by
  have N := Net.of h1
  have hn1 := N.n1
  obtain ⟨okp, okt⟩ := okLL_net h1
  have kn := fun h h' K => ConW_any (h := h) (h' := h') (K := K) (toD (by decide) (lift (by decide) (f46_con p t okp okt))) (netR_any p t) (by unfold netR; split <;> rfl)
  rw [netR_t h1] at kn
  have hi : ∀ h : Hp, importR h (.tup [.agg [LLI p, LLI t, I p.length], I 0]) = (.tup [.agg [LLI p, LLI t, I p.length], I 0], h) := fun _ => rfl
  have k49 := fun (x lo hi : Int) h h' K => ConW_num (h := h) (h' := h') (K := K) (toD (by decide) (lift (by decide) (f49_con x lo hi))) rfl
  have c1 : inB v 0 (p.length - 1) = true := by simp [inB]; omega
  have c2 : inB 1 0 1 = true := rfl
  have hal2 : ∀ g : Hp, allocB g (some (.agg [.nil, .nil])) = some (.ptr g.nx 0, g.alloc (.cells false false [.nil, .nil])) := fun g => allocB_agg _ rfl
  refine Con_introE Try.func41 rfl okD41 (Nat.le_of_ble_eq_true rfl) rfl ?_
  simp only [Try.f41, Option.getD_some, initSt3]
  simp (disch := first | (simp only [go_sem, Bool.and_self, eq_self]; done) | omega | (simp only [List.length_cons, List.length_nil]; omega)) only [go_sem, ↓reduceIte, Nat.reduceEqDiff, Nat.reduceAdd, Nat.reduceMul, Nat.reduceSub, Int.reduceToNat, Nat.reduceBEq, List.size_toArray, List.length_cons, List.length_nil, Bool.false_and, Bool.true_and, Bool.or_false, Bool.false_or, Bool.and_false, Bool.and_true, kn, hi, k49, c1, c2, ↓stopZ 4 false]
  refine WPz_go (fun st h => (st 1 = I v ∧ st 2 = I 1 ∧ st 6 = .ptr 1 0 ∧ st 8 = .ptr 2 0) ∧ h.nx = 3 ∧ h.bl 1 = some (.cells false false [.nil, .nil]) ∧ h.bl 2 = some (.cells false false [LLI p, LLI t, I p.length])) ⟨⟨by simp (disch := first | (simp only [go_sem, Bool.and_self, eq_self]; done) | omega | (simp only [List.length_cons, List.length_nil]; omega)) only [go_sem, ↓reduceIte, Nat.reduceEqDiff, Nat.reduceAdd, Nat.reduceMul, Nat.reduceSub, Int.reduceToNat, Nat.reduceBEq, List.size_toArray, List.length_cons, List.length_nil, Bool.false_and, Bool.true_and, Bool.or_false, Bool.false_or, Bool.and_false, Bool.and_true], by simp (disch := first | (simp only [go_sem, Bool.and_self, eq_self]; done) | omega | (simp only [List.length_cons, List.length_nil]; omega)) only [go_sem, ↓reduceIte, Nat.reduceEqDiff, Nat.reduceAdd, Nat.reduceMul, Nat.reduceSub, Int.reduceToNat, Nat.reduceBEq, List.size_toArray, List.length_cons, List.length_nil, Bool.false_and, Bool.true_and, Bool.or_false, Bool.false_or, Bool.and_false, Bool.and_true], by simp (disch := first | (simp only [go_sem, Bool.and_self, eq_self]; done) | omega | (simp only [List.length_cons, List.length_nil]; omega)) only [go_sem, ↓reduceIte, Nat.reduceEqDiff, Nat.reduceAdd, Nat.reduceMul, Nat.reduceSub, Int.reduceToNat, Nat.reduceBEq, List.size_toArray, List.length_cons, List.length_nil, Bool.false_and, Bool.true_and, Bool.or_false, Bool.false_or, Bool.and_false, Bool.and_true], by simp (disch := first | (simp only [go_sem, Bool.and_self, eq_self]; done) | omega | (simp only [List.length_cons, List.length_nil]; omega)) only [go_sem, ↓reduceIte, Nat.reduceEqDiff, Nat.reduceAdd, Nat.reduceMul, Nat.reduceSub, Int.reduceToNat, Nat.reduceBEq, List.size_toArray, List.length_cons, List.length_nil, Bool.false_and, Bool.true_and, Bool.or_false, Bool.false_or, Bool.and_false, Bool.and_true]⟩, by simp (disch := first | (simp only [go_sem, Bool.and_self, eq_self]; done) | omega | (simp only [List.length_cons, List.length_nil]; omega)) only [go_sem, ↓reduceIte, Nat.reduceEqDiff, Nat.reduceAdd, Nat.reduceMul, Nat.reduceSub, Int.reduceToNat, Nat.reduceBEq, List.size_toArray, List.length_cons, List.length_nil, Bool.false_and, Bool.true_and, Bool.or_false, Bool.false_or, Bool.and_false, Bool.and_true], by simp (disch := first | (simp only [go_sem, Bool.and_self, eq_self]; done) | omega | (simp only [List.length_cons, List.length_nil]; omega)) only [go_sem, ↓reduceIte, Nat.reduceEqDiff, Nat.reduceAdd, Nat.reduceMul, Nat.reduceSub, Int.reduceToNat, Nat.reduceBEq, List.size_toArray, List.length_cons, List.length_nil, Bool.false_and, Bool.true_and, Bool.or_false, Bool.false_or, Bool.and_false, Bool.and_true], by simp (disch := first | (simp only [go_sem, Bool.and_self, eq_self]; done) | omega | (simp only [List.length_cons, List.length_nil]; omega)) only [go_sem, ↓reduceIte, Nat.reduceEqDiff, Nat.reduceAdd, Nat.reduceMul, Nat.reduceSub, Int.reduceToNat, Nat.reduceBEq, List.size_toArray, List.length_cons, List.length_nil, Bool.false_and, Bool.true_and, Bool.or_false, Bool.false_or, Bool.and_false, Bool.and_true]⟩ ?_
  rintro st h ⟨⟨s1, s2, s6, s8⟩, hnx, b1, b2⟩
  obtain ⟨w, H', hs, pv, tv, cs, ds, rfl, L, lc, ld, hn, lo⟩ := f70_shrD p t N v hv 1 (by decide) h
  have hcall := fun K => CallW_shr (K := K) 70 _ shrD70 hs
  have B1 := (lo 1 (by omega)).trans b1
  have ct := L.lt.cell
  have cp := L.lp.cell
  have hst : ∀ g : Hp, storeC g 1 0 2 (some (.cells false false [.nil, .nil])) [pv, tv] = some (.skp, g.put 1 (some (.cells false false [pv, tv]))) := fun g => by simp [storeC, setL, cp, ct]
  have L2 : LN (h.nx + 3) (H'.put 1 (some (.cells false false [pv, tv]))) pv tv cs ds := L.keep (Nat.le_refl _) (fun i hi _ => by rw [put_bl, if_neg (by omega)])
  obtain ⟨cs', ds', u, hex, q1, q2, q3, q4⟩ := L2.export (by omega) (by omega)
  have hx : exportR Try.prog true true [24, 30] (H'.put 1 (some (.cells false false [pv, tv]))) (.tup [.agg [pv, tv], I 0]) = some (.tup [.own (.agg [.fresh 1 cs', .fresh 1 ds']), I 0]) := by
    have hnp : (AV.agg [pv, tv]).isPure = false := by
      rcases L.lp with ⟨_, e⟩ | ⟨id, rfl, _⟩
      · rw [e] at lc; simp at lc; omega
      · rfl
    have x1 : exportV Try.prog true true 24 (H'.put 1 (some (.cells false false [pv, tv]))) [] (.agg [pv, tv]) = some (.own (.agg [.fresh 1 cs', .fresh 1 ds']), H'.put 1 (some (.cells false false [pv, tv])), u) := by
      unfold exportV
      rw [if_pos rfl, if_pos rfl, if_neg (by rw [hnp]; decide), hex]; rfl
    show (exportL Try.prog true true _ [] [24, 30] [.agg [pv, tv], I 0]).map AV.tup = _
    simp only [exportL, x1, Option.bind_some]
    rfl
  simp (disch := first | (simp only [go_sem, Bool.and_self, eq_self]; done) | omega | (simp only [List.length_cons, List.length_nil]; omega)) only [go_sem, ↓reduceIte, Nat.reduceEqDiff, Nat.reduceAdd, Nat.reduceMul, Nat.reduceSub, Int.reduceToNat, Nat.reduceBEq, List.size_toArray, List.length_cons, List.length_nil, Bool.false_and, Bool.true_and, Bool.or_false, Bool.false_or, Bool.and_false, Bool.and_true, s1, s2, s6, s8, b2, hcall, B1, hst, hx]
  exact ⟨_, rfl, cs', ds', rfl, by omega, by omega, q3, q4⟩
end Go.Proofs.Ytpkakapbepkfdaa

set_option linter.unusedVariables false
set_option linter.unusedSimpArgs false
set_option maxRecDepth 10000
namespace Go.Proofs.Ytpkakapbepkfdaa
open Go Go.Am

variable {h h' : Hp} {K : AV → Hp → Prop}

theorem rowN_two (m y b : Nat) (hb : b < 2) : rowN (m + 1) (2 * y + b) = rowN m y ++ [(b : Int)] := by
  refine list_ext_nth (by simp [rowN_len]) fun j hj => ?_
  rw [rowN_len] at hj
  rw [rowN_nth hj]
  by_cases h : j < m
  · rw [nth_append_left _ _ _ (by rw [rowN_len]; exact h), rowN_nth h]
    have e : 2 ^ (m + 1 - 1 - j) = 2 * 2 ^ (m - 1 - j) := by
      rw [← Nat.pow_succ']; congr 1; omega
    rw [e, ← Nat.div_div_eq_div_mul, show (2 * y + b) / 2 = y by omega]
  · have hjm : j = m := by omega
    subst hjm
    rw [nth, List.getElem?_append_right (by rw [rowN_len]; omega), rowN_len]
    simp only [Nat.sub_self, List.getElem?_cons_zero, Option.getD_some, Nat.add_sub_cancel, Nat.pow_zero, Nat.div_one]
    omega
theorem sumN_two (f : Nat → Int) : ∀ n, sumN f (2 * n) = sumN (fun y => f (2 * y) + f (2 * y + 1)) n
  | 0 => rfl
  | n + 1 => by
    have e : 2 * (n + 1) = 2 * n + 1 + 1 := by omega
    rw [e, sumN, sumN, sumN_two f n, sumN]; omega
theorem sumN_mul (f : Nat → Int) (c : Int) : ∀ n, sumN (fun y => f y * c) n = sumN f n * c
  | 0 => by simp [sumN]
  | n + 1 => by rw [sumN, sumN, sumN_mul f c n, Int.add_mul]
theorem wt_front {p t : List (List Int)} (N : Net p t) {v w : List Int} {i : Nat} (hi : i < p.length) (h : ∀ k, k ≤ i → nth v k = nth w k) : wt p t v i = wt p t w i := by
  have : caseF (nth p i) v (nth p i).length = caseF (nth p i) w (nth p i).length := caseF_congr fun k hk => by
    obtain ⟨a0, a1⟩ := N.par i k hi hk
    exact h _ (by omega)
  simp only [wt, this, h i (Nat.le_refl _)]
theorem total {p t : List (List Int)} (N : Net p t) : ∀ m, m ≤ p.length → sumN (fun x => prodN (wt p t (rowN m x)) m) (2 ^ m) = 16 ^ m
  | 0, _ => by simp [sumN, prodN]
  | m + 1, hm => by
    have ih := total N m (by omega)
    rw [Nat.pow_succ, Nat.mul_comm, sumN_two]
    have e : ∀ y, y < 2 ^ m → (fun y => prodN (wt p t (rowN (m + 1) (2 * y))) (m + 1) + prodN (wt p t (rowN (m + 1) (2 * y + 1))) (m + 1)) y = (fun y => prodN (wt p t (rowN m y)) m * 16) y := by
      intro y _
      have r0 := rowN_two m y 0 (by decide)
      have r1 := rowN_two m y 1 (by decide)
      simp only [Nat.add_zero] at r0
      have fr : ∀ b : Int, prodN (wt p t (rowN m y ++ [b])) m = prodN (wt p t (rowN m y)) m := fun b => prodN_congr fun i hi => wt_front N (by omega) fun k hk => nth_append_left _ _ _ (by rw [rowN_len]; omega)
      have last : ∀ b : Int, nth (rowN m y ++ [b]) m = b := fun b => by rw [nth, List.getElem?_append_right (by rw [rowN_len]; omega), rowN_len]; simp
      have cs : ∀ b : Int, caseF (nth p m) (rowN m y ++ [b]) (nth p m).length = caseF (nth p m) (rowN m y) (nth p m).length := fun b => caseF_congr fun k hk => by
        obtain ⟨a0, a1⟩ := N.par m k (by omega) hk
        exact nth_append_left _ _ _ (by rw [rowN_len]; omega)
      simp only [r0, r1, prodN, fr, wt, last, cs]
      simp only [show ((0 : Nat) : Int) = 0 from rfl, show ((1 : Nat) : Int) = 1 from rfl, if_true, show ¬ (1 : Int) = 0 by decide, if_false]
      rw [← Int.mul_add]; congr 1; omega
    rw [sumN_congr e, sumN_mul, ih, Int.pow_succ]
theorem total_weight {p t : List (List Int)} (N : Net p t) : sumN (fun x => weightB p t (rowN p.length x) p.length) (2 ^ p.length) = 16 ^ p.length := total N p.length (Nat.le_refl _)

end Go.Proofs.Ytpkakapbepkfdaa

set_option linter.unusedVariables false
set_option linter.unusedSimpArgs false
set_option maxRecDepth 10000
namespace Go.Proofs.Ytpkakapbepkfdaa
open Go Go.Am

variable {h h' : Hp} {K : AV → Hp → Prop}

theorem sumN_mono0 {f g : Nat → Int} : ∀ {n : Nat}, (∀ i, i < n → f i ≤ g i) → sumN f n ≤ sumN g n
  | 0, _ => Int.le_refl _
  | n + 1, h => by
    have h1 := sumN_mono0 (n := n) fun i hi => h i (by omega)
    have h2 := h n (by omega)
    rw [sumN, sumN]; omega
theorem f37_S (p t : List (List Int)) (h1 : netB p t = true) : ∃ v h', Shr Try.prog cfg 37 [.agg [LLI p, LLI t], LP []] Hp.empty v h' ∧ ∃ l a b J, v = .tup [.sl J 0 l.length 1, .agg [I a, I b], I 0] ∧ l.length ≤ 10 ∧ J < h'.nx ∧ h'.bl J = some (.cells false true (l.flatMap (e1 I))) ∧ likR p t [] = .tup [LI l, .agg [I a, I b], I 0] := by
  obtain ⟨hp, ht⟩ := okLL_net h1
  have kn := fun h h' K => k46 (h := h) (h' := h') (K := K) p t hp ht
  have n20 : ¬ (2 : Int) = 0 := by decide
  have N := Net.of h1
  have hn1 := N.n1
  refine Shr_intro (h := Hp.empty) Try.func37 rfl ok37 (Nat.le_of_ble_eq_true rfl) ?_
  simp only [Try.f37, Option.getD_some, initSt2]
  simp (disch := first | (simp only [go_sem, Bool.and_self, eq_self]; done) | omega | (simp only [List.length_cons, List.length_nil]; omega)) only [go_sem, ↓reduceIte, Nat.reduceEqDiff, Nat.reduceAdd, Nat.reduceMul, Nat.reduceSub, Int.reduceToNat, Nat.reduceBEq, List.size_toArray, List.length_cons, List.length_nil, Bool.false_and, Bool.true_and, Bool.or_false, Bool.false_or, Bool.and_false, Bool.and_true, kn, netR_t h1]
  refine CallW_shrE shr54 (f54_shr p t p.length (by omega) [] (by decide) _) ?_
  rintro v hA ⟨nA, fA, cA⟩
  have a1 := fA 1 (by show 1 < 3; omega)
  have a2 := fA 2 (by show 2 < 3; omega)
  simp (disch := first | (simp only [go_sem, Bool.and_self, eq_self]; done) | omega | (simp only [List.length_cons, List.length_nil]; omega)) only [go_sem, ↓reduceIte, Nat.reduceEqDiff, Nat.reduceAdd, Nat.reduceMul, Nat.reduceSub, Int.reduceToNat, Nat.reduceBEq, List.size_toArray, List.length_cons, List.length_nil, Bool.false_and, Bool.true_and, Bool.or_false, Bool.false_or, Bool.and_false, Bool.and_true] at a1 a2 nA cA
  rcases cA with ⟨q1, rfl, q3, q4⟩ | ⟨q1, rfl⟩
  case inr => exact absurd q1 (by simp [factsB])
  have b4 : hA.bl 4 = some (.mp false (entF [])) := q4
  have l4 : 4 < hA.nx := q3
  have d0 : ¬ 1 = hA.nx := by omega
  have d1 : ¬ 2 = hA.nx := by omega
  have d2 : ¬ 4 = hA.nx := by omega
  have hal : ∀ g' : Hp, allocB g' (some (.mp 4)) = some (.ptr g'.nx 0, g'.alloc (.cells false false [.mp 4])) := fun _ => rfl
  have hal3 := fun h => allocB_flat (h := h) (List.replicate 10 (0 : Int))
  have d3 : ¬ hA.nx = 1 := by omega
  have d4 : ¬ hA.nx = 3 := by omega
  have d5 : ¬ hA.nx = 0 := by omega
  have hal4 : ∀ g' : Hp, allocB g' (some (.agg ((List.replicate 10 (0 : Int)).flatMap (e1 I)))) = some (.ptr g'.nx 0, g'.alloc (.cells false false ((List.replicate 10 (0 : Int)).flatMap (e1 I)))) := hal3
  let H : Hp := ((hA.alloc (.cells false false [I 0])).put hA.nx (some (.cells false false [I 0]))).alloc (.cells false false ((List.replicate 10 (0 : Int)).flatMap (e1 I)))
  have hHb : ∀ id, id < hA.nx → H.bl id = hA.bl id := fun id hid => by simp [H, Hp.alloc, Hp.put, show ¬ id = hA.nx by omega, show ¬ id = hA.nx + 1 by omega]
  obtain ⟨h', hs, xs', hg⟩ := f64_shr (H := H) (likEnv N [] hA.nx H.nx l4 rfl) hn1.2 hal (fun h5 g1 g2 g3 g4 g5 g6 g7 => by
    have hH : H.nx = hA.nx + 2 := rfl
    refine ⟨by omega, rfl, by simp, ?_, ?_, ?_, ?_, ?_, g3, g4, g5, g6, g7⟩
    · rw [g2 _ (by omega), hHb _ (by omega)]; exact a1
    · rw [g2 _ (by omega), hHb _ (by omega)]; exact a2
    · rw [g2 _ (by omega), hHb _ (by omega)]; exact b4
    · rw [g2 _ (by omega)]; simp [H, Hp.alloc, Hp.put, bestV]
    · rw [g2 _ (by omega)]; simp [H, Hp.alloc, Hp.put, bestV, ten])
  have hc := fun K => CallW_shr (K := K) 64 _ shr64 hs
  simp (disch := first | (simp only [go_sem, Bool.and_self, eq_self]; done) | omega | (simp only [List.length_cons, List.length_nil]; omega)) only [go_sem, ↓reduceIte, Nat.reduceEqDiff, Nat.reduceAdd, Nat.reduceMul, Nat.reduceSub, Int.reduceToNat, Nat.reduceBEq, List.size_toArray, List.length_cons, List.length_nil, Bool.false_and, Bool.true_and, Bool.or_false, Bool.false_or, Bool.and_false, Bool.and_true, a1, a2, d0, d1, d2, d3, d4, d5, z10, hal3]
  refine Eq.mpr (hc _) ?_
  have hbv := best_vis (t := t) q1
  have c1 := hg.b1
  have c2 := hg.b2
  have cA := hg.bA
  have cR := hg.bR
  rw [hbv] at cA cR
  have cnx : hA.nx + 7 ≤ h'.nx := hg.nx
  obtain ⟨z0, z1⟩ := bestN_bounds N [] (2 ^ p.length)
  have hz : ¬ (bestN p t [] (2 ^ p.length)).1 = 0 := fun e => by
    have ht := total_weight N
    have hle : sumN (fun x => weightB p t (rowN p.length x) p.length) (2 ^ p.length) ≤ sumN (fun _ => (0 : Int)) (2 ^ p.length) := sumN_mono0 fun y hy => by
      have := bestN_max (p := p) (t := t) [] (2 ^ p.length) y hy rfl
      rw [e] at this; exact this
    have h0 : ∀ n, sumN (fun _ => (0 : Int)) n = 0 := fun n => by
      induction n with
      | zero => rfl
      | succ n ih => show sumN (fun _ => (0 : Int)) n + 0 = 0; omega
    rw [ht, h0] at hle
    have := pow16_pos p.length
    omega
  rcases bestN_row (p := p) (t := t) [] (2 ^ p.length) with ⟨h, _⟩ | ⟨y, y1, y2, y3⟩
  · exact absurd h hz
  have hr : likR p t [] = .tup [LI (rowN p.length y), redu (weightB p t (rowN p.length y) p.length) (16 ^ p.length), I 0] := by
    simp only [likR, h1, if_true, refL, q1, hz, if_false, y2]; rw [y3]
  rw [y2] at cR
  rw [y3] at cA hz z0 z1
  have hrl : (ten (rowN p.length y)).length = 10 := ten_len (by rw [rowN_len]; omega)
  have htk : (ten (rowN p.length y)).take p.length = rowN p.length y := by
    unfold ten
    rw [List.take_append_of_le_length (by rw [rowN_len]; omega), List.take_of_length_le (by rw [rowN_len]; omega)]
  have hse := fun h => sealSl_part (h := h) (hA.nx + 1) p.length false false (ten (rowN p.length y)) (by omega)
  rw [htk] at hse
  have kcl := fun h h' K => ConW_any (h := h) (h' := h') (K := K) (f66_con (rowN p.length y) (by rw [rowN_len]; omega) (by rw [rowN_len]; omega)) rfl
  have hsl := fun h lim => sliceC_to (hA.nx + 1) false (ten (rowN p.length y)) p.length hrl (by omega) (by omega)
  have kw := fun h h' K => k52 (h := h) (h' := h') (K := K) p t p.length hn1.2
  have hpw := pow16_le (Nat.le_refl p.length) hn1.2
  have hp0 : (0 : Int) < 16 ^ p.length := Int.pow_pos (by decide)
  have kr := fun h h' K => k50 (h := h) (h' := h') (K := K) (weightB p t (rowN p.length y) p.length) (16 ^ p.length) (by omega) (by omega)
  have e0 : 1 < h'.nx := by omega
  have e1' : 2 < h'.nx := by omega
  have e2 : hA.nx < h'.nx := by omega
  have e3 : hA.nx + 1 < h'.nx := by omega
  simp (disch := first | (simp only [go_sem, Bool.and_self, eq_self]; done) | omega | (simp only [List.length_cons, List.length_nil]; omega)) only [go_sem, ↓reduceIte, Nat.reduceEqDiff, Nat.reduceAdd, Nat.reduceMul, Nat.reduceSub, Int.reduceToNat, Nat.reduceBEq, List.size_toArray, List.length_cons, List.length_nil, Bool.false_and, Bool.true_and, Bool.or_false, Bool.false_or, Bool.and_false, Bool.and_true, cA, hz]
  have u1 : ¬ hA.nx = h'.nx := by omega
  have u2 : ¬ hA.nx = hA.nx + 1 := by omega
  have u3 : ¬ 2 = h'.nx := by omega
  have u4 : ¬ 1 = h'.nx := by omega
  have u5 : ¬ h'.nx = 1 := by omega
  have hso := fun h => sealSl_own (h := h) (f := e1 I) (sz := 1) h'.nx (((rowN p.length y).flatMap (e1 I)).length / 1) false true (rowN p.length y) (by rw [flat_len, Nat.div_one])
  simp (disch := first | (simp only [go_sem, Bool.and_self, eq_self]; done) | omega | (simp only [List.length_cons, List.length_nil]; omega)) only [go_sem, ↓reduceIte, Nat.reduceEqDiff, Nat.reduceAdd, Nat.reduceMul, Nat.reduceSub, Int.reduceToNat, Nat.reduceBEq, List.size_toArray, List.length_cons, List.length_nil, Bool.false_and, Bool.true_and, Bool.or_false, Bool.false_or, Bool.and_false, Bool.and_true, cA, cR, c1, c2, hse, kcl, hsl, kw, kr, e0, e1', e2, e3, d0, d1, d2, d3, d4, d5, Int.toNat_natCast, u1, u2, u3, u4, u5, hso]
  exact ⟨rowN p.length y, _, _, h'.nx, by rw [flat_len, Nat.div_one], by rw [rowN_len]; omega, by omega, by rw [if_neg (by omega)]; exact if_pos rfl, hr⟩
theorem thawL_ints (l : List Int) (a b : AV) : thawL (.tup [LI l, a, b]) = .tup [.fresh 1 (l.flatMap (e1 I)), a, b] := by
  show AV.tup [.fresh 1 ((l.map (e1 I)).flatten), a, b] = _
  rw [List.flatMap]
theorem f37_D (p t : List (List Int)) (h1 : netB p t = true) : ∃ l a b, likR p t [] = .tup [LI l, .agg [I a, I b], I 0] ∧ l.length ≤ 10 ∧ Con Try.prog cfgD 37 [.agg [LLI p, LLI t], LP []] (.tup [.fresh 1 (l.flatMap (e1 I)), .agg [I a, I b], I 0]) := by
  obtain ⟨okp, okt⟩ := okLL_net h1
  obtain ⟨v, h', hs, l, a, b, J, rfl, hl10, hJ, hb, hr⟩ := f37_S p t h1
  refine ⟨l, a, b, hr, hl10, ?_⟩
  have hc := f37_con p t [] okp okt (by decide)
  rw [hr] at hc
  have := thawD hc (by
    rw [thawL_ints]
    refine pure_of_shr (ow := true) (kn := false) (ts := [25, 29, 30]) hext0 hs ?_
    have x1 : exportV Try.prog true false 25 h' [] (.sl J 0 l.length 1) = some (.fresh 1 (l.flatMap (e1 I)), h', [J]) := by
      unfold exportV
      rw [if_pos rfl, if_neg (by simp)]
      simp only [hb]
      rw [if_pos ⟨pureL_flatMap l, trivial, by decide, by rw [flatMap_len (f := e1 I) (sz := 1)], by simp⟩]
    show (exportL Try.prog true false h' [] [25, 29, 30] [.sl J 0 l.length 1, .agg [I a, I b], I 0]).map AV.tup = _
    simp only [exportL, x1, Option.bind_some]
    rfl)
  rw [thawL_ints] at this
  exact this
end Go.Proofs.Ytpkakapbepkfdaa

set_option linter.unusedVariables false
set_option linter.unusedSimpArgs false
set_option maxRecDepth 10000
namespace Go.Proofs.Ytpkakapbepkfdaa
open Go Go.Am

variable {h h' : Hp} {K : AV → Hp → Prop}

theorem tableM_id {a : List (List Int)} (h12 : a.length ≤ 12) (hr : ∀ i, i < a.length → (nth a i).length ≤ 20) : tableM a = a := by
  refine List.ext_getElem? fun i => ?_
  by_cases hi : i < a.length
  · have hr' := hr i hi
    rw [tableM, List.getElem?_map, List.getElem?_range (by omega), nth_get hi]
    show some (tableRow a i) = _
    rw [tableRow, listM, List.take_of_length_le (by omega)]
  · rw [List.getElem?_eq_none (by simp [tableM]; omega), List.getElem?_eq_none (by omega)]

/-- What stays as it is while the results are overwritten. -/
def Mem15 (P T : List (List Int)) (n N i1 i2 : Nat) (h : Hp) : Prop :=
  (h.bl 1 = some (.cells false false [LLI P, LLI T]) ∧ h.bl 2 = some (.cells false false [LLI P, LLI T])) ∧ (h.bl N = some (.cells false false [.sl i1 0 n 1, .sl i2 0 n 1]) ∧ N < h.nx ∧ 5 ≤ N)
theorem Mem15.put {P T : List (List Int)} {n N i1 i2 q : Nat} {fl fl' : List AV} (M : Mem15 P T n N i1 i2 h) (hq : h.bl q = some (.cells false true fl)) : Mem15 P T n N i1 i2 (h.put q (some (.cells false true fl'))) := by
  obtain ⟨⟨b1, b2⟩, bN, h1, h2⟩ := M
  have e1 : 1 ≠ q := by rintro rfl; rw [b1] at hq; cases hq
  have e2 : 2 ≠ q := by rintro rfl; rw [b2] at hq; cases hq
  have eN : N ≠ q := by rintro rfl; rw [bN] at hq; cases hq
  exact ⟨⟨by rw [put_bl, if_neg e1]; exact b1, by rw [put_bl, if_neg e2]; exact b2⟩, by rw [put_bl, if_neg eN]; exact bN, h1, h2⟩
set_option maxHeartbeats 2000000 in
theorem f15_con (p t : List (List Int)) (u : Int) (hp : okLL p) (ht : okLL t) : Con Try.prog cfgD 15 [.agg [LLI p, LLI t], I u] (.bool true) := by
  have ml : maxLen = 9223372036854775807 := by decide
  obtain ⟨_, c30, P, T, h1, hP6, rfl⟩ := f30_con p t hp ht 6 (by decide)
  have N0 := Net.of h1
  have hn1 := N0.n1
  obtain ⟨okp, okt⟩ := okLL_net h1
  have hmP : tableM P = P := tableM_id (by omega) (fun i hi => by have := N0.pl i hi; omega)
  have hmT : tableM T = T := tableM_id (by have := N0.tl; omega) (fun i hi => by
    have hl1 := N0.pl i (by have := N0.tl; omega)
    have := N0.tt i (by have := N0.tl; omega)
    have h8 : 2 ^ (nth P i).length ≤ 8 := Nat.pow_le_pow_right (n := 2) (by decide) hl1
    omega)
  have c16 := f16_con P T okp okt
  rw [hmP, hmT, netV_cons (fun e => by rw [e.1] at hn1; simp at hn1)] at c16
  have hv := modI_bounds u (n := (P.length : Int)) (by omega)
  have k31 := fun h h' K => ConW_num (h := h) (h' := h') (K := K) (toD (by decide) (lift (by decide) (f31_con u P.length (by omega)))) rfl
  obtain ⟨v, hve⟩ : ∃ v : Nat, modI u P.length = (v : Int) := ⟨(modI u P.length).toNat, by omega⟩
  simp only [hve] at k31
  have hvn : v < P.length := by omega
  obtain ⟨l, a, b, hlik, hl10, c37⟩ := f37_D P T h1
  obtain ⟨_, c41, cs, ds, rfl, lc, ld, rc, rd⟩ := f41_D P T h1 v hvn
  have k30 := fun h h' K => ConW_any (h := h) (h' := h') (K := K) (toD (by decide) (lift (by decide) c30)) rfl
  have k16 := fun h h' K => ConW_any (h := h) (h' := h') (K := K) (toD (by decide) (lift (by decide) c16)) rfl
  have k37 := fun h h' K => ConW_any (h := h) (h' := h') (K := K) c37 rfl
  have k41 := fun h K => ConW_same (h := h) (K := K) c41 rfl
  have hi : ∀ h : Hp, importR h (.agg [LLI P, LLI T]) = (.agg [LLI P, LLI T], h) := fun _ => rfl
  have hi37 : ∀ h : Hp, importR h (.tup [.fresh 1 (l.flatMap (e1 I)), .agg [I a, I b], I 0]) = (.tup [.sl h.nx 0 l.length 1, .agg [I a, I b], I 0], h.alloc (.cells false true (l.flatMap (e1 I)))) := fun h => by
    show (AV.tup [.sl h.nx 0 ((l.flatMap (e1 I)).length / 1) 1, .agg [I a, I b], I 0], _) = _
    rw [flat_len, Nat.div_one]
  obtain ⟨n, hn⟩ : ∃ n, n = P.length := ⟨_, rfl⟩
  obtain ⟨m, hm⟩ : ∃ m, m = l.length := ⟨_, rfl⟩
  have hm10 : m ≤ 10 := by omega
  have hLP : LP ([] : List (Int × Int)) = .lst [] := rfl
  rw [hLP] at k37
  refine Con_intro Try.func15 rfl okD15 (Nat.le_of_ble_eq_true rfl) rfl ?_
  simp only [Try.f15, Option.getD_some, initSt2]
  simp (disch := first | (simp only [go_sem, Bool.and_self, eq_self]; done) | omega | (simp only [List.length_cons, List.length_nil]; omega)) only [go_sem, ↓reduceIte, Nat.reduceEqDiff, Nat.reduceAdd, Nat.reduceMul, Nat.reduceSub, Int.reduceToNat, Nat.reduceBEq, List.size_toArray, List.length_cons, List.length_nil, Bool.false_and, Bool.true_and, Bool.or_false, Bool.false_or, Bool.and_false, Bool.and_true, k30, k16, hi, k31, k37, hi37, ← hm, ↓stopZ 5 false]
  refine WPz_go (fun st h => st 1 = I v ∧ st 4 = .bool false ∧ st 5 = .ptr 1 0 ∧ st 6 = .ptr 2 0 ∧ st 7 = .sl 3 0 m 1 ∧ st 9 = I 0 ∧ h.nx = 5 ∧ h.bl 1 = some (.cells false false [LLI P, LLI T]) ∧ h.bl 2 = some (.cells false false [LLI P, LLI T]) ∧ h.bl 3 = some (.cells false true (l.flatMap (e1 I)))) ⟨(by simp (disch := first | (simp only [go_sem, Bool.and_self, eq_self]; done) | omega | (simp only [List.length_cons, List.length_nil]; omega)) only [go_sem, ↓reduceIte, Nat.reduceEqDiff, Nat.reduceAdd, Nat.reduceMul, Nat.reduceSub, Int.reduceToNat, Nat.reduceBEq, List.size_toArray, List.length_cons, List.length_nil, Bool.false_and, Bool.true_and, Bool.or_false, Bool.false_or, Bool.and_false, Bool.and_true]), (by simp (disch := first | (simp only [go_sem, Bool.and_self, eq_self]; done) | omega | (simp only [List.length_cons, List.length_nil]; omega)) only [go_sem, ↓reduceIte, Nat.reduceEqDiff, Nat.reduceAdd, Nat.reduceMul, Nat.reduceSub, Int.reduceToNat, Nat.reduceBEq, List.size_toArray, List.length_cons, List.length_nil, Bool.false_and, Bool.true_and, Bool.or_false, Bool.false_or, Bool.and_false, Bool.and_true]), (by simp (disch := first | (simp only [go_sem, Bool.and_self, eq_self]; done) | omega | (simp only [List.length_cons, List.length_nil]; omega)) only [go_sem, ↓reduceIte, Nat.reduceEqDiff, Nat.reduceAdd, Nat.reduceMul, Nat.reduceSub, Int.reduceToNat, Nat.reduceBEq, List.size_toArray, List.length_cons, List.length_nil, Bool.false_and, Bool.true_and, Bool.or_false, Bool.false_or, Bool.and_false, Bool.and_true]), (by simp (disch := first | (simp only [go_sem, Bool.and_self, eq_self]; done) | omega | (simp only [List.length_cons, List.length_nil]; omega)) only [go_sem, ↓reduceIte, Nat.reduceEqDiff, Nat.reduceAdd, Nat.reduceMul, Nat.reduceSub, Int.reduceToNat, Nat.reduceBEq, List.size_toArray, List.length_cons, List.length_nil, Bool.false_and, Bool.true_and, Bool.or_false, Bool.false_or, Bool.and_false, Bool.and_true]), (by simp (disch := first | (simp only [go_sem, Bool.and_self, eq_self]; done) | omega | (simp only [List.length_cons, List.length_nil]; omega)) only [go_sem, ↓reduceIte, Nat.reduceEqDiff, Nat.reduceAdd, Nat.reduceMul, Nat.reduceSub, Int.reduceToNat, Nat.reduceBEq, List.size_toArray, List.length_cons, List.length_nil, Bool.false_and, Bool.true_and, Bool.or_false, Bool.false_or, Bool.and_false, Bool.and_true]), (by simp (disch := first | (simp only [go_sem, Bool.and_self, eq_self]; done) | omega | (simp only [List.length_cons, List.length_nil]; omega)) only [go_sem, ↓reduceIte, Nat.reduceEqDiff, Nat.reduceAdd, Nat.reduceMul, Nat.reduceSub, Int.reduceToNat, Nat.reduceBEq, List.size_toArray, List.length_cons, List.length_nil, Bool.false_and, Bool.true_and, Bool.or_false, Bool.false_or, Bool.and_false, Bool.and_true]), (by simp (disch := first | (simp only [go_sem, Bool.and_self, eq_self]; done) | omega | (simp only [List.length_cons, List.length_nil]; omega)) only [go_sem, ↓reduceIte, Nat.reduceEqDiff, Nat.reduceAdd, Nat.reduceMul, Nat.reduceSub, Int.reduceToNat, Nat.reduceBEq, List.size_toArray, List.length_cons, List.length_nil, Bool.false_and, Bool.true_and, Bool.or_false, Bool.false_or, Bool.and_false, Bool.and_true]), (by simp (disch := first | (simp only [go_sem, Bool.and_self, eq_self]; done) | omega | (simp only [List.length_cons, List.length_nil]; omega)) only [go_sem, ↓reduceIte, Nat.reduceEqDiff, Nat.reduceAdd, Nat.reduceMul, Nat.reduceSub, Int.reduceToNat, Nat.reduceBEq, List.size_toArray, List.length_cons, List.length_nil, Bool.false_and, Bool.true_and, Bool.or_false, Bool.false_or, Bool.and_false, Bool.and_true]), (by simp (disch := first | (simp only [go_sem, Bool.and_self, eq_self]; done) | omega | (simp only [List.length_cons, List.length_nil]; omega)) only [go_sem, ↓reduceIte, Nat.reduceEqDiff, Nat.reduceAdd, Nat.reduceMul, Nat.reduceSub, Int.reduceToNat, Nat.reduceBEq, List.size_toArray, List.length_cons, List.length_nil, Bool.false_and, Bool.true_and, Bool.or_false, Bool.false_or, Bool.and_false, Bool.and_true]), (by simp (disch := first | (simp only [go_sem, Bool.and_self, eq_self]; done) | omega | (simp only [List.length_cons, List.length_nil]; omega)) only [go_sem, ↓reduceIte, Nat.reduceEqDiff, Nat.reduceAdd, Nat.reduceMul, Nat.reduceSub, Int.reduceToNat, Nat.reduceBEq, List.size_toArray, List.length_cons, List.length_nil, Bool.false_and, Bool.true_and, Bool.or_false, Bool.false_or, Bool.and_false, Bool.and_true])⟩ ?_
  rintro st h ⟨s1, s4, s5, s6, s7, s9, hnx, b1, b2, b3⟩
  obtain ⟨i1, i2, cs1, ds1, M, H, hin, q1, q2, q3, q4, q5, r1, r2⟩ := import_net h cs ds rc rd 0
  rw [lc, ld, ← hn] at hin
  have B1 := (q3 1 (by omega)).trans b1
  have B2 := (q3 2 (by omega)).trans b2
  have B3 := (q3 3 (by omega)).trans b3
  obtain ⟨N, hN⟩ : ∃ N, N = H.nx := ⟨_, rfl⟩
  have hst : ∀ g : Hp, storeC g N 0 2 (some (.cells false false [.nil, .nil])) [.sl i1 0 n 1, .sl i2 0 n 1] = some (.skp, g.put N (some (.cells false false [.sl i1 0 n 1, .sl i2 0 n 1]))) := fun g => by simp [storeC, setL, AV.isCell]
  simp (disch := first | (simp only [go_sem, Bool.and_self, eq_self]; done) | omega | (simp only [List.length_cons, List.length_nil]; omega)) only [go_sem, ↓reduceIte, Nat.reduceEqDiff, Nat.reduceAdd, Nat.reduceMul, Nat.reduceSub, Int.reduceToNat, Nat.reduceBEq, List.size_toArray, List.length_cons, List.length_nil, Bool.false_and, Bool.true_and, Bool.or_false, Bool.false_or, Bool.and_false, Bool.and_true, s1, s4, s5, s6, s7, s9, b1, k41, hin, ← hN, hst, ↓stopZ 6 false]
  rw [← hN] at r2
  have hMN : M ≤ N := by omega
  have h5M : 5 ≤ M := by omega
  rw [hnx] at r1
  have hlo : ∀ i, i < N → ((H.alloc (.cells false false [.nil, .nil])).put N (some (.cells false false [.sl i1 0 n 1, .sl i2 0 n 1]))).bl i = H.bl i := fun i hi => by simp [Hp.alloc, Hp.put, ← hN, show ¬ i = N by omega]
  refine WPz_go (fun st h => st 1 = I v ∧ st 4 = .bool false ∧ st 5 = .ptr 1 0 ∧ st 6 = .ptr 2 0 ∧ st 7 = .sl 3 0 m 1 ∧ st 9 = I 0 ∧ st 10 = .ptr N 0 ∧ st 11 = I 0 ∧ Mem15 P T n N i1 i2 h ∧ LR 5 M h i1 cs1 ∧ LR M N h i2 ds1 ∧ ∃ fl, h.bl 3 = some (.cells false true fl) ∧ fl.length = m)
    ⟨by simp [upd, Hp.put, Hp.alloc, s1, s4, s5, s6, s7, s9], by simp [upd, Hp.put, Hp.alloc, s1, s4, s5, s6, s7, s9], by simp [upd, Hp.put, Hp.alloc, s1, s4, s5, s6, s7, s9], by simp [upd, Hp.put, Hp.alloc, s1, s4, s5, s6, s7, s9], by simp [upd, Hp.put, Hp.alloc, s1, s4, s5, s6, s7, s9], by simp [upd, Hp.put, Hp.alloc, s1, s4, s5, s6, s7, s9], by simp [upd, Hp.put, Hp.alloc, s1, s4, s5, s6, s7, s9], by simp [upd, Hp.put, Hp.alloc, s1, s4, s5, s6, s7, s9], ⟨⟨(hlo 1 (by omega)).trans B1, (hlo 2 (by omega)).trans B2⟩, by simp [Hp.put], by show N < H.nx + 1; omega, by omega⟩, r1.keep (fun i _ hi => hlo i (by omega)), r2.keep (fun i _ hi => hlo i hi), l.flatMap (e1 I), (hlo 3 (by omega)).trans B3, by rw [flat_len, hm]⟩ ?_
  clear hnx b1 b2 b3 r1 r2 B1 B2 B3 hin q1 q2 q3 hst hlo hN s1 s4 s5 s6 s7 s9 h H
  rintro st h ⟨s1, s4, s5, s6, s7, s9, s10, s11, MM, r1, r2, f3⟩
  simp (disch := first | (simp only [go_sem, Bool.and_self, eq_self]; done) | omega | (simp only [List.length_cons, List.length_nil]; omega)) only [go_sem, ↓reduceIte, Nat.reduceEqDiff, Nat.reduceAdd, Nat.reduceMul, Nat.reduceSub, Int.reduceToNat, Nat.reduceBEq, List.size_toArray, List.length_cons, List.length_nil, Bool.false_and, Bool.true_and, Bool.or_false, Bool.false_or, Bool.and_false, Bool.and_true, s1, s4, s5, s6, s7, s9, s10, s11]
  refine WP_cut (fun st h => st 1 = I v ∧ st 4 = .bool false ∧ st 5 = .ptr 1 0 ∧ st 6 = .ptr 2 0 ∧ st 7 = .sl 3 0 m 1 ∧ st 9 = I 0 ∧ st 10 = .ptr N 0 ∧ st 11 = I 0 ∧ Mem15 P T n N i1 i2 h ∧ LR 5 M h i1 cs1 ∧ LR M N h i2 ds1) ?_ ?_
  · refine WP_for 12 m (fun i st h => st 1 = I v ∧ st 4 = .bool false ∧ st 5 = .ptr 1 0 ∧ st 6 = .ptr 2 0 ∧ st 7 = .sl 3 0 m 1 ∧ st 9 = I 0 ∧ st 10 = .ptr N 0 ∧ st 11 = I 0 ∧ Mem15 P T n N i1 i2 h ∧ LR 5 M h i1 cs1 ∧ LR M N h i2 ds1 ∧ ∃ fl, h.bl 3 = some (.cells false true fl) ∧ fl.length = m) (by simp (disch := first | (simp only [go_sem, Bool.and_self, eq_self]; done) | omega | (simp only [List.length_cons, List.length_nil]; omega)) only [go_sem, ↓reduceIte, Nat.reduceEqDiff, Nat.reduceAdd, Nat.reduceMul, Nat.reduceSub, Int.reduceToNat, Nat.reduceBEq, List.size_toArray, List.length_cons, List.length_nil, Bool.false_and, Bool.true_and, Bool.or_false, Bool.false_or, Bool.and_false, Bool.and_true]) ⟨by simp [upd, Hp.put, Hp.alloc, s1, s4, s5, s6, s7, s9, s10, s11], by simp [upd, Hp.put, Hp.alloc, s1, s4, s5, s6, s7, s9, s10, s11], by simp [upd, Hp.put, Hp.alloc, s1, s4, s5, s6, s7, s9, s10, s11], by simp [upd, Hp.put, Hp.alloc, s1, s4, s5, s6, s7, s9, s10, s11], by simp [upd, Hp.put, Hp.alloc, s1, s4, s5, s6, s7, s9, s10, s11], by simp [upd, Hp.put, Hp.alloc, s1, s4, s5, s6, s7, s9, s10, s11], by simp [upd, Hp.put, Hp.alloc, s1, s4, s5, s6, s7, s9, s10, s11], by simp [upd, Hp.put, Hp.alloc, s1, s4, s5, s6, s7, s9, s10, s11], MM, r1, r2, f3⟩ ?_
    rintro i st h hi s12 ⟨s1, s4, s5, s6, s7, s9, s10, s11, MM, r1, r2, fl, b3, hfl⟩
    by_cases hlt : i < m
    case neg =>
      simp (disch := first | (simp only [go_sem, Bool.and_self, eq_self]; done) | omega | (simp only [List.length_cons, List.length_nil]; omega)) only [go_sem, ↓reduceIte, Nat.reduceEqDiff, Nat.reduceAdd, Nat.reduceMul, Nat.reduceSub, Int.reduceToNat, Nat.reduceBEq, List.size_toArray, List.length_cons, List.length_nil, Bool.false_and, Bool.true_and, Bool.or_false, Bool.false_or, Bool.and_false, Bool.and_true, s1, s4, s5, s6, s7, s9, s10, s11, s12, hlt]
      exact ⟨MM, r1, r2⟩
    have hlt' : (i : Int) < m := by omega
    have hlf : i < fl.length := by omega
    have hso := fun g : Hp => storeC_one (h := g) 3 i true fl (I (-1)) rfl hlf
    simp (disch := first | (simp only [go_sem, Bool.and_self, eq_self]; done) | omega | (simp only [List.length_cons, List.length_nil]; omega)) only [go_sem, ↓reduceIte, Nat.reduceEqDiff, Nat.reduceAdd, Nat.reduceMul, Nat.reduceSub, Int.reduceToNat, Nat.reduceBEq, List.size_toArray, List.length_cons, List.length_nil, Bool.false_and, Bool.true_and, Bool.or_false, Bool.false_or, Bool.and_false, Bool.and_true, s1, s4, s5, s6, s7, s9, s10, s11, s12, hlt, hlt', hlf, b3, hso]
    rw [ForK_normal]
    exact ⟨hlt, (by simp (disch := first | (simp only [go_sem, Bool.and_self, eq_self]; done) | omega | (simp only [List.length_cons, List.length_nil]; omega)) only [go_sem, ↓reduceIte, Nat.reduceEqDiff, Nat.reduceAdd, Nat.reduceMul, Nat.reduceSub, Int.reduceToNat, Nat.reduceBEq, List.size_toArray, List.length_cons, List.length_nil, Bool.false_and, Bool.true_and, Bool.or_false, Bool.false_or, Bool.and_false, Bool.and_true, s12]), by simp [upd, Hp.put, Hp.alloc, s1], by simp [upd, Hp.put, Hp.alloc, s4], by simp [upd, Hp.put, Hp.alloc, s5], by simp [upd, Hp.put, Hp.alloc, s6], by simp [upd, Hp.put, Hp.alloc, s7], by simp [upd, Hp.put, Hp.alloc, s9], by simp [upd, Hp.put, Hp.alloc, s10], by simp [upd, Hp.put, Hp.alloc, s11], MM.put b3, r1.keep (fun i _ _ => by rw [put_bl, if_neg (by omega)]), r2.keep (fun i _ _ => by rw [put_bl, if_neg (by omega)]), fl.set i (I (-1)), by simp [Hp.put], by rw [List.length_set]; exact hfl⟩
  clear MM r1 r2 f3 s1 s4 s5 s6 s7 s9 s10 s11
  rintro st h ⟨s1, s4, s5, s6, s7, s9, s10, s11, MM, r1, r2⟩
  simp (disch := first | (simp only [go_sem, Bool.and_self, eq_self]; done) | omega | (simp only [List.length_cons, List.length_nil]; omega)) only [go_sem, ↓reduceIte, Nat.reduceEqDiff, Nat.reduceAdd, Nat.reduceMul, Nat.reduceSub, Int.reduceToNat, Nat.reduceBEq, List.size_toArray, List.length_cons, List.length_nil, Bool.false_and, Bool.true_and, Bool.or_false, Bool.false_or, Bool.and_false, Bool.and_true, s1, s4, s5, s6, s7, s9, s10, s11]
  refine WP_cut (fun st h => st 1 = I v ∧ st 4 = .bool false ∧ st 5 = .ptr 1 0 ∧ st 6 = .ptr 2 0 ∧ st 7 = .sl 3 0 m 1 ∧ st 9 = I 0 ∧ st 10 = .ptr N 0 ∧ st 11 = I 0 ∧ Mem15 P T n N i1 i2 h ∧ LR 5 M h i1 cs1 ∧ LR M N h i2 ds1) ?_ ?_
  · refine WP_for 13 n (fun i st h => st 1 = I v ∧ st 4 = .bool false ∧ st 5 = .ptr 1 0 ∧ st 6 = .ptr 2 0 ∧ st 7 = .sl 3 0 m 1 ∧ st 9 = I 0 ∧ st 10 = .ptr N 0 ∧ st 11 = I 0 ∧ Mem15 P T n N i1 i2 h ∧ LR 5 M h i1 cs1 ∧ LR M N h i2 ds1) (by simp (disch := first | (simp only [go_sem, Bool.and_self, eq_self]; done) | omega | (simp only [List.length_cons, List.length_nil]; omega)) only [go_sem, ↓reduceIte, Nat.reduceEqDiff, Nat.reduceAdd, Nat.reduceMul, Nat.reduceSub, Int.reduceToNat, Nat.reduceBEq, List.size_toArray, List.length_cons, List.length_nil, Bool.false_and, Bool.true_and, Bool.or_false, Bool.false_or, Bool.and_false, Bool.and_true]) ⟨by simp [upd, Hp.put, Hp.alloc, s1, s4, s5, s6, s7, s9, s10, s11], by simp [upd, Hp.put, Hp.alloc, s1, s4, s5, s6, s7, s9, s10, s11], by simp [upd, Hp.put, Hp.alloc, s1, s4, s5, s6, s7, s9, s10, s11], by simp [upd, Hp.put, Hp.alloc, s1, s4, s5, s6, s7, s9, s10, s11], by simp [upd, Hp.put, Hp.alloc, s1, s4, s5, s6, s7, s9, s10, s11], by simp [upd, Hp.put, Hp.alloc, s1, s4, s5, s6, s7, s9, s10, s11], by simp [upd, Hp.put, Hp.alloc, s1, s4, s5, s6, s7, s9, s10, s11], by simp [upd, Hp.put, Hp.alloc, s1, s4, s5, s6, s7, s9, s10, s11], MM, r1, r2⟩ ?_
    rintro i st h hi si ⟨s1, s4, s5, s6, s7, s9, s10, s11, MM, r1, r2⟩
    have bN := MM.2.1
    by_cases hlt : i < n
    case neg =>
      simp (disch := first | (simp only [go_sem, Bool.and_self, eq_self]; done) | omega | (simp only [List.length_cons, List.length_nil]; omega)) only [go_sem, ↓reduceIte, Nat.reduceEqDiff, Nat.reduceAdd, Nat.reduceMul, Nat.reduceSub, Int.reduceToNat, Nat.reduceBEq, List.size_toArray, List.length_cons, List.length_nil, Bool.false_and, Bool.true_and, Bool.or_false, Bool.false_or, Bool.and_false, Bool.and_true, s1, s4, s5, s6, s7, s9, s10, s11, si, bN, hlt]
      exact ⟨MM, r1, r2⟩
    have hlt' : (i : Int) < n := by omega
    have hi1 : i < cs1.length := by omega
    obtain ⟨c, hc⟩ : ∃ c, cs1[i]? = some c := ⟨_, List.getElem?_eq_getElem hi1⟩
    have hb1 := r1.1
    simp (disch := first | (simp only [go_sem, Bool.and_self, eq_self]; done) | omega | (simp only [List.length_cons, List.length_nil]; omega)) only [go_sem, ↓reduceIte, Nat.reduceEqDiff, Nat.reduceAdd, Nat.reduceMul, Nat.reduceSub, Int.reduceToNat, Nat.reduceBEq, List.size_toArray, List.length_cons, List.length_nil, Bool.false_and, Bool.true_and, Bool.or_false, Bool.false_or, Bool.and_false, Bool.and_true, s1, s4, s5, s6, s7, s9, s10, s11, si, bN, hlt, hlt']
    refine WP_cut (fun st h => st 1 = I v ∧ st 4 = .bool false ∧ st 5 = .ptr 1 0 ∧ st 6 = .ptr 2 0 ∧ st 7 = .sl 3 0 m 1 ∧ st 9 = I 0 ∧ st 10 = .ptr N 0 ∧ st 11 = I 0 ∧ st 13 = I i ∧ Mem15 P T n N i1 i2 h ∧ LR 5 M h i1 cs1 ∧ LR M N h i2 ds1) ?_ ?_
    · rcases r1.2.2 c (List.mem_of_getElem? hc) with rfl | ⟨q, mm, rfl, hq, ⟨hqi, hmm⟩, fl0, hbq, hfl0⟩
      · refine WP_for 14 0 (fun j st g => st 1 = I v ∧ st 4 = .bool false ∧ st 5 = .ptr 1 0 ∧ st 6 = .ptr 2 0 ∧ st 7 = .sl 3 0 m 1 ∧ st 9 = I 0 ∧ st 10 = .ptr N 0 ∧ st 11 = I 0 ∧ st 13 = I i ∧ g = h) (by simp (disch := first | (simp only [go_sem, Bool.and_self, eq_self]; done) | omega | (simp only [List.length_cons, List.length_nil]; omega)) only [go_sem, ↓reduceIte, Nat.reduceEqDiff, Nat.reduceAdd, Nat.reduceMul, Nat.reduceSub, Int.reduceToNat, Nat.reduceBEq, List.size_toArray, List.length_cons, List.length_nil, Bool.false_and, Bool.true_and, Bool.or_false, Bool.false_or, Bool.and_false, Bool.and_true]) ⟨by simp [upd, Hp.put, Hp.alloc, s1, s4, s5, s6, s7, s9, s10, s11], by simp [upd, Hp.put, Hp.alloc, s1, s4, s5, s6, s7, s9, s10, s11], by simp [upd, Hp.put, Hp.alloc, s1, s4, s5, s6, s7, s9, s10, s11], by simp [upd, Hp.put, Hp.alloc, s1, s4, s5, s6, s7, s9, s10, s11], by simp [upd, Hp.put, Hp.alloc, s1, s4, s5, s6, s7, s9, s10, s11], by simp [upd, Hp.put, Hp.alloc, s1, s4, s5, s6, s7, s9, s10, s11], by simp [upd, Hp.put, Hp.alloc, s1, s4, s5, s6, s7, s9, s10, s11], by simp [upd, Hp.put, Hp.alloc, s1, s4, s5, s6, s7, s9, s10, s11], by simp [upd, Hp.put, Hp.alloc, si], rfl⟩ ?_
        rintro j st g hj sj ⟨s1, s4, s5, s6, s7, s9, s10, s11, si, rfl⟩
        have h00 : ¬ (j : Int) < 0 := by omega
        simp (disch := first | (simp only [go_sem, Bool.and_self, eq_self]; done) | omega | (simp only [List.length_cons, List.length_nil]; omega)) only [go_sem, ↓reduceIte, Nat.reduceEqDiff, Nat.reduceAdd, Nat.reduceMul, Nat.reduceSub, Int.reduceToNat, Nat.reduceBEq, List.size_toArray, List.length_cons, List.length_nil, Bool.false_and, Bool.true_and, Bool.or_false, Bool.false_or, Bool.and_false, Bool.and_true, s1, s4, s5, s6, s7, s9, s10, s11, si, sj, bN, hb1, hlt, hlt', hc, h00]
        exact ⟨MM, r1, r2⟩
      · refine WP_for 14 mm (fun j st h => st 1 = I v ∧ st 4 = .bool false ∧ st 5 = .ptr 1 0 ∧ st 6 = .ptr 2 0 ∧ st 7 = .sl 3 0 m 1 ∧ st 9 = I 0 ∧ st 10 = .ptr N 0 ∧ st 11 = I 0 ∧ st 13 = I i ∧ Mem15 P T n N i1 i2 h ∧ LR 5 M h i1 cs1 ∧ LR M N h i2 ds1) (by simp (disch := first | (simp only [go_sem, Bool.and_self, eq_self]; done) | omega | (simp only [List.length_cons, List.length_nil]; omega)) only [go_sem, ↓reduceIte, Nat.reduceEqDiff, Nat.reduceAdd, Nat.reduceMul, Nat.reduceSub, Int.reduceToNat, Nat.reduceBEq, List.size_toArray, List.length_cons, List.length_nil, Bool.false_and, Bool.true_and, Bool.or_false, Bool.false_or, Bool.and_false, Bool.and_true]) ⟨by simp [upd, Hp.put, Hp.alloc, s1, s4, s5, s6, s7, s9, s10, s11], by simp [upd, Hp.put, Hp.alloc, s1, s4, s5, s6, s7, s9, s10, s11], by simp [upd, Hp.put, Hp.alloc, s1, s4, s5, s6, s7, s9, s10, s11], by simp [upd, Hp.put, Hp.alloc, s1, s4, s5, s6, s7, s9, s10, s11], by simp [upd, Hp.put, Hp.alloc, s1, s4, s5, s6, s7, s9, s10, s11], by simp [upd, Hp.put, Hp.alloc, s1, s4, s5, s6, s7, s9, s10, s11], by simp [upd, Hp.put, Hp.alloc, s1, s4, s5, s6, s7, s9, s10, s11], by simp [upd, Hp.put, Hp.alloc, s1, s4, s5, s6, s7, s9, s10, s11], by simp [upd, Hp.put, Hp.alloc, si], MM, r1, r2⟩ ?_
        clear MM r1 r2 bN hb1 hbq s1 s4 s5 s6 s7 s9 s10 s11 si
        rintro j st h hj sj ⟨s1, s4, s5, s6, s7, s9, s10, s11, si, MM, r1, r2⟩
        have bN := MM.2.1
        have hb1 := r1.1
        have hq' : ∃ fl, h.bl q = some (.cells false true fl) ∧ fl.length = mm := by
          rcases r1.2.2 _ (List.mem_of_getElem? hc) with e | ⟨q2, m2, e, _, _, fl, k3, k4⟩
          · cases e
          · cases e; exact ⟨fl, k3, k4⟩
        obtain ⟨fl, hbq, hfl⟩ := hq'
        by_cases hjt : j < mm
        case neg =>
          simp (disch := first | (simp only [go_sem, Bool.and_self, eq_self]; done) | omega | (simp only [List.length_cons, List.length_nil]; omega)) only [go_sem, ↓reduceIte, Nat.reduceEqDiff, Nat.reduceAdd, Nat.reduceMul, Nat.reduceSub, Int.reduceToNat, Nat.reduceBEq, List.size_toArray, List.length_cons, List.length_nil, Bool.false_and, Bool.true_and, Bool.or_false, Bool.false_or, Bool.and_false, Bool.and_true, s1, s4, s5, s6, s7, s9, s10, s11, si, sj, bN, hb1, hlt, hlt', hc, hjt]
          exact ⟨MM, r1, r2⟩
        have hjt' : (j : Int) < mm := by omega
        have hjf : j < fl.length := by omega
        have hso := fun g : Hp => storeC_one (h := g) q j true fl (I (-1)) rfl hjf
        simp (disch := first | (simp only [go_sem, Bool.and_self, eq_self]; done) | omega | (simp only [List.length_cons, List.length_nil]; omega)) only [go_sem, ↓reduceIte, Nat.reduceEqDiff, Nat.reduceAdd, Nat.reduceMul, Nat.reduceSub, Int.reduceToNat, Nat.reduceBEq, List.size_toArray, List.length_cons, List.length_nil, Bool.false_and, Bool.true_and, Bool.or_false, Bool.false_or, Bool.and_false, Bool.and_true, s1, s4, s5, s6, s7, s9, s10, s11, si, sj, bN, hb1, hlt, hlt', hc, hjt, hjt', hjf, hbq, hso]
        rw [ForK_normal]
        exact ⟨hjt, (by simp (disch := first | (simp only [go_sem, Bool.and_self, eq_self]; done) | omega | (simp only [List.length_cons, List.length_nil]; omega)) only [go_sem, ↓reduceIte, Nat.reduceEqDiff, Nat.reduceAdd, Nat.reduceMul, Nat.reduceSub, Int.reduceToNat, Nat.reduceBEq, List.size_toArray, List.length_cons, List.length_nil, Bool.false_and, Bool.true_and, Bool.or_false, Bool.false_or, Bool.and_false, Bool.and_true, sj]), by simp [upd, Hp.put, Hp.alloc, s1], by simp [upd, Hp.put, Hp.alloc, s4], by simp [upd, Hp.put, Hp.alloc, s5], by simp [upd, Hp.put, Hp.alloc, s6], by simp [upd, Hp.put, Hp.alloc, s7], by simp [upd, Hp.put, Hp.alloc, s9], by simp [upd, Hp.put, Hp.alloc, s10], by simp [upd, Hp.put, Hp.alloc, s11], by simp [upd, Hp.put, Hp.alloc, si], MM.put hbq, r1.put hqi hbq (by rw [List.length_set]), r2.keep (fun i hi _ => by rw [put_bl, if_neg (by omega)])⟩
    clear MM r1 r2 bN hb1 s1 s4 s5 s6 s7 s9 s10 s11 si
    rintro st h ⟨s1, s4, s5, s6, s7, s9, s10, s11, si, MM, r1, r2⟩
    simp (disch := first | (simp only [go_sem, Bool.and_self, eq_self]; done) | omega | (simp only [List.length_cons, List.length_nil]; omega)) only [go_sem, ↓reduceIte, Nat.reduceEqDiff, Nat.reduceAdd, Nat.reduceMul, Nat.reduceSub, Int.reduceToNat, Nat.reduceBEq, List.size_toArray, List.length_cons, List.length_nil, Bool.false_and, Bool.true_and, Bool.or_false, Bool.false_or, Bool.and_false, Bool.and_true, s1, s4, s5, s6, s7, s9, s10, s11, si]
    rw [ForK_normal]
    exact ⟨hlt, (by simp (disch := first | (simp only [go_sem, Bool.and_self, eq_self]; done) | omega | (simp only [List.length_cons, List.length_nil]; omega)) only [go_sem, ↓reduceIte, Nat.reduceEqDiff, Nat.reduceAdd, Nat.reduceMul, Nat.reduceSub, Int.reduceToNat, Nat.reduceBEq, List.size_toArray, List.length_cons, List.length_nil, Bool.false_and, Bool.true_and, Bool.or_false, Bool.false_or, Bool.and_false, Bool.and_true, si]), by simp [upd, Hp.put, Hp.alloc, s1], by simp [upd, Hp.put, Hp.alloc, s4], by simp [upd, Hp.put, Hp.alloc, s5], by simp [upd, Hp.put, Hp.alloc, s6], by simp [upd, Hp.put, Hp.alloc, s7], by simp [upd, Hp.put, Hp.alloc, s9], by simp [upd, Hp.put, Hp.alloc, s10], by simp [upd, Hp.put, Hp.alloc, s11], MM, r1, r2⟩
  clear MM r1 r2 s1 s4 s5 s6 s7 s9 s10 s11
  rintro st h ⟨s1, s4, s5, s6, s7, s9, s10, s11, MM, r1, r2⟩
  simp (disch := first | (simp only [go_sem, Bool.and_self, eq_self]; done) | omega | (simp only [List.length_cons, List.length_nil]; omega)) only [go_sem, ↓reduceIte, Nat.reduceEqDiff, Nat.reduceAdd, Nat.reduceMul, Nat.reduceSub, Int.reduceToNat, Nat.reduceBEq, List.size_toArray, List.length_cons, List.length_nil, Bool.false_and, Bool.true_and, Bool.or_false, Bool.false_or, Bool.and_false, Bool.and_true, s1, s4, s5, s6, s7, s9, s10, s11]
  refine WP_cut (fun st h => st 1 = I v ∧ st 4 = .bool false ∧ st 5 = .ptr 1 0 ∧ st 6 = .ptr 2 0 ∧ st 7 = .sl 3 0 m 1 ∧ st 9 = I 0 ∧ st 10 = .ptr N 0 ∧ st 11 = I 0 ∧ Mem15 P T n N i1 i2 h ∧ LR 5 M h i1 cs1 ∧ LR M N h i2 ds1) ?_ ?_
  · refine WP_for 15 n (fun i st h => st 1 = I v ∧ st 4 = .bool false ∧ st 5 = .ptr 1 0 ∧ st 6 = .ptr 2 0 ∧ st 7 = .sl 3 0 m 1 ∧ st 9 = I 0 ∧ st 10 = .ptr N 0 ∧ st 11 = I 0 ∧ Mem15 P T n N i1 i2 h ∧ LR 5 M h i1 cs1 ∧ LR M N h i2 ds1) (by simp (disch := first | (simp only [go_sem, Bool.and_self, eq_self]; done) | omega | (simp only [List.length_cons, List.length_nil]; omega)) only [go_sem, ↓reduceIte, Nat.reduceEqDiff, Nat.reduceAdd, Nat.reduceMul, Nat.reduceSub, Int.reduceToNat, Nat.reduceBEq, List.size_toArray, List.length_cons, List.length_nil, Bool.false_and, Bool.true_and, Bool.or_false, Bool.false_or, Bool.and_false, Bool.and_true]) ⟨by simp [upd, Hp.put, Hp.alloc, s1, s4, s5, s6, s7, s9, s10, s11], by simp [upd, Hp.put, Hp.alloc, s1, s4, s5, s6, s7, s9, s10, s11], by simp [upd, Hp.put, Hp.alloc, s1, s4, s5, s6, s7, s9, s10, s11], by simp [upd, Hp.put, Hp.alloc, s1, s4, s5, s6, s7, s9, s10, s11], by simp [upd, Hp.put, Hp.alloc, s1, s4, s5, s6, s7, s9, s10, s11], by simp [upd, Hp.put, Hp.alloc, s1, s4, s5, s6, s7, s9, s10, s11], by simp [upd, Hp.put, Hp.alloc, s1, s4, s5, s6, s7, s9, s10, s11], by simp [upd, Hp.put, Hp.alloc, s1, s4, s5, s6, s7, s9, s10, s11], MM, r1, r2⟩ ?_
    rintro i st h hi si ⟨s1, s4, s5, s6, s7, s9, s10, s11, MM, r1, r2⟩
    have bN := MM.2.1
    by_cases hlt : i < n
    case neg =>
      simp (disch := first | (simp only [go_sem, Bool.and_self, eq_self]; done) | omega | (simp only [List.length_cons, List.length_nil]; omega)) only [go_sem, ↓reduceIte, Nat.reduceEqDiff, Nat.reduceAdd, Nat.reduceMul, Nat.reduceSub, Int.reduceToNat, Nat.reduceBEq, List.size_toArray, List.length_cons, List.length_nil, Bool.false_and, Bool.true_and, Bool.or_false, Bool.false_or, Bool.and_false, Bool.and_true, s1, s4, s5, s6, s7, s9, s10, s11, si, bN, hlt]
      exact ⟨MM, r1, r2⟩
    have hlt' : (i : Int) < n := by omega
    have hi1 : i < ds1.length := by omega
    obtain ⟨c, hc⟩ : ∃ c, ds1[i]? = some c := ⟨_, List.getElem?_eq_getElem hi1⟩
    have hb1 := r2.1
    simp (disch := first | (simp only [go_sem, Bool.and_self, eq_self]; done) | omega | (simp only [List.length_cons, List.length_nil]; omega)) only [go_sem, ↓reduceIte, Nat.reduceEqDiff, Nat.reduceAdd, Nat.reduceMul, Nat.reduceSub, Int.reduceToNat, Nat.reduceBEq, List.size_toArray, List.length_cons, List.length_nil, Bool.false_and, Bool.true_and, Bool.or_false, Bool.false_or, Bool.and_false, Bool.and_true, s1, s4, s5, s6, s7, s9, s10, s11, si, bN, hlt, hlt']
    refine WP_cut (fun st h => st 1 = I v ∧ st 4 = .bool false ∧ st 5 = .ptr 1 0 ∧ st 6 = .ptr 2 0 ∧ st 7 = .sl 3 0 m 1 ∧ st 9 = I 0 ∧ st 10 = .ptr N 0 ∧ st 11 = I 0 ∧ st 15 = I i ∧ Mem15 P T n N i1 i2 h ∧ LR 5 M h i1 cs1 ∧ LR M N h i2 ds1) ?_ ?_
    · rcases r2.2.2 c (List.mem_of_getElem? hc) with rfl | ⟨q, mm, rfl, hq, ⟨hqi, hmm⟩, fl0, hbq, hfl0⟩
      · refine WP_for 16 0 (fun j st g => st 1 = I v ∧ st 4 = .bool false ∧ st 5 = .ptr 1 0 ∧ st 6 = .ptr 2 0 ∧ st 7 = .sl 3 0 m 1 ∧ st 9 = I 0 ∧ st 10 = .ptr N 0 ∧ st 11 = I 0 ∧ st 15 = I i ∧ g = h) (by simp (disch := first | (simp only [go_sem, Bool.and_self, eq_self]; done) | omega | (simp only [List.length_cons, List.length_nil]; omega)) only [go_sem, ↓reduceIte, Nat.reduceEqDiff, Nat.reduceAdd, Nat.reduceMul, Nat.reduceSub, Int.reduceToNat, Nat.reduceBEq, List.size_toArray, List.length_cons, List.length_nil, Bool.false_and, Bool.true_and, Bool.or_false, Bool.false_or, Bool.and_false, Bool.and_true]) ⟨by simp [upd, Hp.put, Hp.alloc, s1, s4, s5, s6, s7, s9, s10, s11], by simp [upd, Hp.put, Hp.alloc, s1, s4, s5, s6, s7, s9, s10, s11], by simp [upd, Hp.put, Hp.alloc, s1, s4, s5, s6, s7, s9, s10, s11], by simp [upd, Hp.put, Hp.alloc, s1, s4, s5, s6, s7, s9, s10, s11], by simp [upd, Hp.put, Hp.alloc, s1, s4, s5, s6, s7, s9, s10, s11], by simp [upd, Hp.put, Hp.alloc, s1, s4, s5, s6, s7, s9, s10, s11], by simp [upd, Hp.put, Hp.alloc, s1, s4, s5, s6, s7, s9, s10, s11], by simp [upd, Hp.put, Hp.alloc, s1, s4, s5, s6, s7, s9, s10, s11], by simp [upd, Hp.put, Hp.alloc, si], rfl⟩ ?_
        rintro j st g hj sj ⟨s1, s4, s5, s6, s7, s9, s10, s11, si, rfl⟩
        have h00 : ¬ (j : Int) < 0 := by omega
        simp (disch := first | (simp only [go_sem, Bool.and_self, eq_self]; done) | omega | (simp only [List.length_cons, List.length_nil]; omega)) only [go_sem, ↓reduceIte, Nat.reduceEqDiff, Nat.reduceAdd, Nat.reduceMul, Nat.reduceSub, Int.reduceToNat, Nat.reduceBEq, List.size_toArray, List.length_cons, List.length_nil, Bool.false_and, Bool.true_and, Bool.or_false, Bool.false_or, Bool.and_false, Bool.and_true, s1, s4, s5, s6, s7, s9, s10, s11, si, sj, bN, hb1, hlt, hlt', hc, h00]
        exact ⟨MM, r1, r2⟩
      · refine WP_for 16 mm (fun j st h => st 1 = I v ∧ st 4 = .bool false ∧ st 5 = .ptr 1 0 ∧ st 6 = .ptr 2 0 ∧ st 7 = .sl 3 0 m 1 ∧ st 9 = I 0 ∧ st 10 = .ptr N 0 ∧ st 11 = I 0 ∧ st 15 = I i ∧ Mem15 P T n N i1 i2 h ∧ LR 5 M h i1 cs1 ∧ LR M N h i2 ds1) (by simp (disch := first | (simp only [go_sem, Bool.and_self, eq_self]; done) | omega | (simp only [List.length_cons, List.length_nil]; omega)) only [go_sem, ↓reduceIte, Nat.reduceEqDiff, Nat.reduceAdd, Nat.reduceMul, Nat.reduceSub, Int.reduceToNat, Nat.reduceBEq, List.size_toArray, List.length_cons, List.length_nil, Bool.false_and, Bool.true_and, Bool.or_false, Bool.false_or, Bool.and_false, Bool.and_true]) ⟨by simp [upd, Hp.put, Hp.alloc, s1, s4, s5, s6, s7, s9, s10, s11], by simp [upd, Hp.put, Hp.alloc, s1, s4, s5, s6, s7, s9, s10, s11], by simp [upd, Hp.put, Hp.alloc, s1, s4, s5, s6, s7, s9, s10, s11], by simp [upd, Hp.put, Hp.alloc, s1, s4, s5, s6, s7, s9, s10, s11], by simp [upd, Hp.put, Hp.alloc, s1, s4, s5, s6, s7, s9, s10, s11], by simp [upd, Hp.put, Hp.alloc, s1, s4, s5, s6, s7, s9, s10, s11], by simp [upd, Hp.put, Hp.alloc, s1, s4, s5, s6, s7, s9, s10, s11], by simp [upd, Hp.put, Hp.alloc, s1, s4, s5, s6, s7, s9, s10, s11], by simp [upd, Hp.put, Hp.alloc, si], MM, r1, r2⟩ ?_
        clear MM r1 r2 bN hb1 hbq s1 s4 s5 s6 s7 s9 s10 s11 si
        rintro j st h hj sj ⟨s1, s4, s5, s6, s7, s9, s10, s11, si, MM, r1, r2⟩
        have bN := MM.2.1
        have hb1 := r2.1
        have hq' : ∃ fl, h.bl q = some (.cells false true fl) ∧ fl.length = mm := by
          rcases r2.2.2 _ (List.mem_of_getElem? hc) with e | ⟨q2, m2, e, _, _, fl, k3, k4⟩
          · cases e
          · cases e; exact ⟨fl, k3, k4⟩
        obtain ⟨fl, hbq, hfl⟩ := hq'
        by_cases hjt : j < mm
        case neg =>
          simp (disch := first | (simp only [go_sem, Bool.and_self, eq_self]; done) | omega | (simp only [List.length_cons, List.length_nil]; omega)) only [go_sem, ↓reduceIte, Nat.reduceEqDiff, Nat.reduceAdd, Nat.reduceMul, Nat.reduceSub, Int.reduceToNat, Nat.reduceBEq, List.size_toArray, List.length_cons, List.length_nil, Bool.false_and, Bool.true_and, Bool.or_false, Bool.false_or, Bool.and_false, Bool.and_true, s1, s4, s5, s6, s7, s9, s10, s11, si, sj, bN, hb1, hlt, hlt', hc, hjt]
          exact ⟨MM, r1, r2⟩
        have hjt' : (j : Int) < mm := by omega
        have hjf : j < fl.length := by omega
        have hso := fun g : Hp => storeC_one (h := g) q j true fl (I (-1)) rfl hjf
        simp (disch := first | (simp only [go_sem, Bool.and_self, eq_self]; done) | omega | (simp only [List.length_cons, List.length_nil]; omega)) only [go_sem, ↓reduceIte, Nat.reduceEqDiff, Nat.reduceAdd, Nat.reduceMul, Nat.reduceSub, Int.reduceToNat, Nat.reduceBEq, List.size_toArray, List.length_cons, List.length_nil, Bool.false_and, Bool.true_and, Bool.or_false, Bool.false_or, Bool.and_false, Bool.and_true, s1, s4, s5, s6, s7, s9, s10, s11, si, sj, bN, hb1, hlt, hlt', hc, hjt, hjt', hjf, hbq, hso]
        rw [ForK_normal]
        exact ⟨hjt, (by simp (disch := first | (simp only [go_sem, Bool.and_self, eq_self]; done) | omega | (simp only [List.length_cons, List.length_nil]; omega)) only [go_sem, ↓reduceIte, Nat.reduceEqDiff, Nat.reduceAdd, Nat.reduceMul, Nat.reduceSub, Int.reduceToNat, Nat.reduceBEq, List.size_toArray, List.length_cons, List.length_nil, Bool.false_and, Bool.true_and, Bool.or_false, Bool.false_or, Bool.and_false, Bool.and_true, sj]), by simp [upd, Hp.put, Hp.alloc, s1], by simp [upd, Hp.put, Hp.alloc, s4], by simp [upd, Hp.put, Hp.alloc, s5], by simp [upd, Hp.put, Hp.alloc, s6], by simp [upd, Hp.put, Hp.alloc, s7], by simp [upd, Hp.put, Hp.alloc, s9], by simp [upd, Hp.put, Hp.alloc, s10], by simp [upd, Hp.put, Hp.alloc, s11], by simp [upd, Hp.put, Hp.alloc, si], MM.put hbq, r1.keep (fun i _ hi => by rw [put_bl, if_neg (by omega)]), r2.put hqi hbq (by rw [List.length_set])⟩
    clear MM r1 r2 bN hb1 s1 s4 s5 s6 s7 s9 s10 s11 si
    rintro st h ⟨s1, s4, s5, s6, s7, s9, s10, s11, si, MM, r1, r2⟩
    simp (disch := first | (simp only [go_sem, Bool.and_self, eq_self]; done) | omega | (simp only [List.length_cons, List.length_nil]; omega)) only [go_sem, ↓reduceIte, Nat.reduceEqDiff, Nat.reduceAdd, Nat.reduceMul, Nat.reduceSub, Int.reduceToNat, Nat.reduceBEq, List.size_toArray, List.length_cons, List.length_nil, Bool.false_and, Bool.true_and, Bool.or_false, Bool.false_or, Bool.and_false, Bool.and_true, s1, s4, s5, s6, s7, s9, s10, s11, si]
    rw [ForK_normal]
    exact ⟨hlt, (by simp (disch := first | (simp only [go_sem, Bool.and_self, eq_self]; done) | omega | (simp only [List.length_cons, List.length_nil]; omega)) only [go_sem, ↓reduceIte, Nat.reduceEqDiff, Nat.reduceAdd, Nat.reduceMul, Nat.reduceSub, Int.reduceToNat, Nat.reduceBEq, List.size_toArray, List.length_cons, List.length_nil, Bool.false_and, Bool.true_and, Bool.or_false, Bool.false_or, Bool.and_false, Bool.and_true, si]), by simp [upd, Hp.put, Hp.alloc, s1], by simp [upd, Hp.put, Hp.alloc, s4], by simp [upd, Hp.put, Hp.alloc, s5], by simp [upd, Hp.put, Hp.alloc, s6], by simp [upd, Hp.put, Hp.alloc, s7], by simp [upd, Hp.put, Hp.alloc, s9], by simp [upd, Hp.put, Hp.alloc, s10], by simp [upd, Hp.put, Hp.alloc, s11], MM, r1, r2⟩
  clear MM r1 r2 s1 s4 s5 s6 s7 s9 s10 s11
  rintro st h ⟨s1, s4, s5, s6, s7, s9, s10, s11, MM, r1, r2⟩
  obtain ⟨⟨b1, b2⟩, bN, hNn, h5N⟩ := MM
  have k38 := fun h h' K => ConW_any (h := h) (h' := h') (K := K) (toD (by decide) (lift (by decide) (f38_con P T h1 [] (by decide)))) (by rw [show refL P T [] = likR P T [] by rw [likR, if_pos h1], hlik]; rfl) (by rw [show refL P T [] = likR P T [] by rw [likR, if_pos h1], hlik]; rfl)
  rw [show refL P T [] = likR P T [] by rw [likR, if_pos h1], hlik, hLP] at k38
  have hi38 : ∀ h : Hp, importR h (.tup [LI l, .agg [I a, I b], I 0]) = (.tup [LI l, .agg [I a, I b], I 0], h) := fun _ => rfl
  have l1 : 1 < h.nx := by omega
  have l2 : 2 < h.nx := by omega
  have u1 : ¬ 1 = h.nx := by omega
  have u2 : ¬ 2 = h.nx := by omega
  have u3 : ¬ h.nx = 1 := by omega
  have u4 : ¬ h.nx = 0 := by omega
  simp (disch := first | (simp only [go_sem, Bool.and_self, eq_self]; done) | omega | (simp only [List.length_cons, List.length_nil]; omega)) only [go_sem, ↓reduceIte, Nat.reduceEqDiff, Nat.reduceAdd, Nat.reduceMul, Nat.reduceSub, Int.reduceToNat, Nat.reduceBEq, List.size_toArray, List.length_cons, List.length_nil, Bool.false_and, Bool.true_and, Bool.or_false, Bool.false_or, Bool.and_false, Bool.and_true, s1, s4, s5, s6, s7, s9, s10, s11, b1, b2, u1, u2, u3, u4, k37, hi37, k38, hi38, ↓stopZ 26 false]
  refine WPz_go (fun st h => (st 1 = I v ∧ st 4 = .bool false ∧ st 5 = .ptr 1 0 ∧ st 6 = .ptr 2 0 ∧ st 9 = I 0 ∧ st 11 = I 0 ∧ ∃ J, st 17 = .sl J 0 m 1 ∧ h.bl J = some (.cells false true (l.flatMap (e1 I)))) ∧ (st 19 = I 0 ∧ st 20 = LI l) ∧ h.bl 1 = some (.cells false false [LLI P, LLI T]) ∧ h.bl 2 = some (.cells false false [LLI P, LLI T]))
    ⟨⟨by simp [upd, Hp.put, Hp.alloc, s1, s4, s5, s6, s7, s9, s10, s11], by simp [upd, Hp.put, Hp.alloc, s1, s4, s5, s6, s7, s9, s10, s11], by simp [upd, Hp.put, Hp.alloc, s1, s4, s5, s6, s7, s9, s10, s11], by simp [upd, Hp.put, Hp.alloc, s1, s4, s5, s6, s7, s9, s10, s11], by simp [upd, Hp.put, Hp.alloc, s9], by simp [upd, Hp.put, Hp.alloc, s11], h.nx, by simp [upd, Hp.put, Hp.alloc, hm], by simp [upd, Hp.put, Hp.alloc, show ¬ h.nx = h.nx + 1 + 1 by omega]⟩, ⟨by simp [upd, Hp.put, Hp.alloc], by simp [upd, Hp.put, Hp.alloc]⟩, by simp [upd, Hp.put, Hp.alloc, b1, u1, u4], by simp [upd, Hp.put, Hp.alloc, b2, u2, u3, u4]⟩ ?_
  clear b1 b2 bN l1 l2 u1 u2 u3 u4 s1 s4 s5 s6 s7 s9 s10 s11 r1 r2 hNn h
  rintro st h ⟨⟨s1, s4, s5, s6, s9, s11, J, s17, bJ⟩, ⟨s19, s20⟩, b1, b2⟩
  have hse : sealA h (.sl J 0 m 1) = some (LI l, h.put J (some (.cells true true (l.flatMap (e1 I))))) := by
    rw [sealA_sl, bJ, sealSl_own (f := e1 I) (sz := 1) J m false true l hm]
  have k43 := fun h h' K => ConW_num (h := h) (h' := h') (K := K) (toD (by decide) (lift (by decide) (f43_con P T okp okt))) rfl
  have hll : l.length ≤ maxLen := by rw [ml]; omega
  have k39 := fun h h' K => ConW_num (h := h) (h' := h') (K := K) (toD (by decide) (lift (by decide) (f39_con l l hll hll))) rfl
  rw [decide_eq_true rfl] at k39
  simp (disch := first | (simp only [go_sem, Bool.and_self, eq_self]; done) | omega | (simp only [List.length_cons, List.length_nil]; omega)) only [go_sem, ↓reduceIte, Nat.reduceEqDiff, Nat.reduceAdd, Nat.reduceMul, Nat.reduceSub, Int.reduceToNat, Nat.reduceBEq, List.size_toArray, List.length_cons, List.length_nil, Bool.false_and, Bool.true_and, Bool.or_false, Bool.false_or, Bool.and_false, Bool.and_true, s1, s4, s5, s6, s9, s11, s17, s19, s20, b1, b2, k43, hse, k39]
end Go.Proofs.Ytpkakapbepkfdaa
