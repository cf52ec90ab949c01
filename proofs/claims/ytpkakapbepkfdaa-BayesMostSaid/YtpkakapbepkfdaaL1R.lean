/-
  The reference's Chance, as a whole.
-/
import Derived.Test.YtpkakapbepkfdaaL1Q
set_option linter.unusedVariables false
set_option linter.unusedSimpArgs false
set_option maxRecDepth 10000
namespace Go.Proofs.Ytpkakapbepkfdaa
open Go Go.Am

variable {h h' : Hp} {K : AV → Hp → Prop}

def refC (p t : List (List Int)) (f g : List (Int × Int)) : AV :=
  if factsB p.length f && factsB p.length g then
    if refS p t g [] = 0 then .tup [.agg [I 0, I 0], I 6] else .tup [redu (refS p t f g) (refS p t g []), I 0]
  else .tup [.agg [I 0, I 0], I 2]
theorem refS_bounds {p t : List (List Int)} (N : Net p t) (f g : List (Int × Int)) : 0 ≤ refS p t f g ∧ refS p t f g ≤ 1125899906842624 := by
  have h1 := refN_bounds N f g (2 ^ p.length)
  have h2 : 2 ^ p.length ≤ 2 ^ 10 := Nat.pow_le_pow_right (by decide) N.n1.2
  unfold refS; omega
theorem f24_con (p t : List (List Int)) (N : Net p t) (f g : List (Int × Int)) (hfl : f.length ≤ maxLen) (hgl : g.length ≤ maxLen) : Con Try.prog cfg 24 [.agg [LLI p, LLI t], LP f, LP g] (refC p t f g) := by
  have hn1 := N.n1
  have kf := fun h h' K => ConW_num (h := h) (h' := h') (K := K) (f56_con p.length (by omega) f hfl) rfl
  have kg := fun h h' K => ConW_num (h := h) (h' := h') (K := K) (f56_con p.length (by omega) g hgl) rfl
  cases h1 : factsB p.length f with
  | false =>
    have hr : refC p t f g = .tup [.agg [I 0, I 0], I 2] := by simp [refC, h1]
    refine Con_intro Try.func24 rfl ok24 (Nat.le_of_ble_eq_true rfl) rfl ?_
    simp only [Try.f24, Option.getD_some, initSt3]
    simp (disch := first | (simp only [go_sem, Bool.and_self, eq_self]; done) | omega | (simp only [List.length_cons, List.length_nil]; omega)) only [go_sem, ↓reduceIte, Nat.reduceEqDiff, Nat.reduceAdd, Nat.reduceMul, Nat.reduceSub, Int.reduceToNat, Nat.reduceBEq, List.size_toArray, List.length_cons, List.length_nil, Bool.false_and, Bool.true_and, Bool.or_false, Bool.false_or, Bool.and_false, Bool.and_true, kf, h1, hr]
  | true =>
  cases h2 : factsB p.length g with
  | false =>
    have hr : refC p t f g = .tup [.agg [I 0, I 0], I 2] := by simp [refC, h2]
    refine Con_intro Try.func24 rfl ok24 (Nat.le_of_ble_eq_true rfl) rfl ?_
    simp only [Try.f24, Option.getD_some, initSt3]
    simp (disch := first | (simp only [go_sem, Bool.and_self, eq_self]; done) | omega | (simp only [List.length_cons, List.length_nil]; omega)) only [go_sem, ↓reduceIte, Nat.reduceEqDiff, Nat.reduceAdd, Nat.reduceMul, Nat.reduceSub, Int.reduceToNat, Nat.reduceBEq, List.size_toArray, List.length_cons, List.length_nil, Bool.false_and, Bool.true_and, Bool.or_false, Bool.false_or, Bool.and_false, Bool.and_true, kf, kg, h1, h2, hr]
  | true =>
  have k1 : ∀ (h h' : Hp) (K : AV → Hp → Prop), ConW Try.prog cfg 57 h (some ([.agg [LLI p, LLI t], LP g, .lst []], h')) K = K (I (refS p t g [])) h := fun h h' K =>
    ConW_num (h := h) (h' := h') (K := K) (f57_con p t N g [] h2 rfl hgl (by decide)) rfl
  have k2 := fun h h' K => ConW_num (h := h) (h' := h') (K := K) (f57_con p t N f g h1 h2 hfl hgl) rfl
  by_cases hz : refS p t g [] = 0
  · have hr : refC p t f g = .tup [.agg [I 0, I 0], I 6] := by simp [refC, h1, h2, hz]
    refine Con_intro Try.func24 rfl ok24 (Nat.le_of_ble_eq_true rfl) rfl ?_
    simp only [Try.f24, Option.getD_some, initSt3]
    simp (disch := first | (simp only [go_sem, Bool.and_self, eq_self]; done) | omega | (simp only [List.length_cons, List.length_nil]; omega)) only [go_sem, ↓reduceIte, Nat.reduceEqDiff, Nat.reduceAdd, Nat.reduceMul, Nat.reduceSub, Int.reduceToNat, Nat.reduceBEq, List.size_toArray, List.length_cons, List.length_nil, Bool.false_and, Bool.true_and, Bool.or_false, Bool.false_or, Bool.and_false, Bool.and_true, kf, kg, h1, h2, k1, hz, hr]
  · have b1 := refS_bounds N g []
    have b2 := refS_bounds N f g
    have kr := fun h h' K => k35 (h := h) (h' := h') (K := K) (refS p t f g) (refS p t g []) ⟨b2.1, by omega⟩ ⟨by omega, by omega⟩
    have hr : refC p t f g = .tup [redu (refS p t f g) (refS p t g []), I 0] := by simp only [refC, h1, h2, Bool.and_self, if_true, hz, if_false]
    refine Con_intro Try.func24 rfl ok24 (Nat.le_of_ble_eq_true rfl) rfl ?_
    simp only [Try.f24, Option.getD_some, initSt3]
    simp (disch := first | (simp only [go_sem, Bool.and_self, eq_self]; done) | omega | (simp only [List.length_cons, List.length_nil]; omega)) only [go_sem, ↓reduceIte, Nat.reduceEqDiff, Nat.reduceAdd, Nat.reduceMul, Nat.reduceSub, Int.reduceToNat, Nat.reduceBEq, List.size_toArray, List.length_cons, List.length_nil, Bool.false_and, Bool.true_and, Bool.or_false, Bool.false_or, Bool.and_false, Bool.and_true, kf, kg, h1, h2, k1, k2, hz, kr, hr]

end Go.Proofs.Ytpkakapbepkfdaa
