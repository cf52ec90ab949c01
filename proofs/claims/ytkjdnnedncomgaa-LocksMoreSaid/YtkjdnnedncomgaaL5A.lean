/-
  The small functions of the statements' own package: mod, ints, same, pairs.
-/
import Derived.Test.YtkjdnnedncomgaaL5Facts
set_option linter.unusedVariables false
set_option linter.unusedSimpArgs false
set_option maxRecDepth 10000
namespace Go.Proofs.Ytkjdnnedncomgaa
open Go Go.Am

theorem f12_con (x n : Int) (hx : ok64 x) (h0 : 0 < n) (h1 : n ≤ 9223372036854775807) : Con Try.prog cfg 12 [I x, I n] (I ((x % 18446744073709551616) % n)) := by
  refine Con_intro Try.func12 rfl ok12 (Nat.le_of_ble_eq_true rfl) rfl ?_
  simp only [Try.f12, Option.getD_some, initSt2]
  have e1 : IntKind.u64.wrap n = n := by rw [wrap_u64]; omega
  have e2 : IntKind.u64.wrap x = x % 18446744073709551616 := wrap_u64 x
  have e3 : (x % 18446744073709551616).tmod n = x % 18446744073709551616 % n := Int.tmod_eq_emod_of_nonneg (by omega)
  have e4 : IntKind.i64.wrap (x % 18446744073709551616 % n) = x % 18446744073709551616 % n := wrap_ok _ (by have := Int.emod_nonneg (x % 18446744073709551616) (show n ≠ 0 by omega); omega) (by have := Int.emod_lt_of_pos (x % 18446744073709551616) h0; omega)
  simp (disch := first | (simp only [go_sem, Bool.and_self, eq_self]; done) | omega | (simp only [List.length_cons, List.length_nil]; omega)) only [go_sem, ↓reduceIte, Nat.reduceEqDiff, Nat.reduceAdd, Nat.reduceMul, Nat.reduceSub, Int.reduceToNat, e1, e2, e3, e4]

theorem list_eq_of_nth {xs ys : List Int} (hl : xs.length = ys.length) (h : ∀ j, j < xs.length → nth xs j = nth ys j) : xs = ys := by
  refine List.ext_getElem hl fun j h1 h2 => ?_
  have := h j h1
  rwa [nth_getElem h1, nth_getElem h2] at this

theorem f16_con (xs ys : List Int) (hx : xs.length ≤ 9223372036854775807) : Con Try.prog cfg 16 [LI xs, LI ys] (.bool (decide (xs = ys))) := by
  refine Con_intro Try.func16 rfl ok16 (Nat.le_of_ble_eq_true rfl) rfl ?_
  simp only [Try.f16, Option.getD_some, initSt2]
  by_cases hl : xs.length = ys.length
  case neg =>
    have hne : ¬ xs = ys := fun h => hl (by rw [h])
    simp (disch := first | (simp only [go_sem, Bool.and_self, eq_self]; done) | omega | (simp only [List.length_cons, List.length_nil]; omega)) only [go_sem, ↓reduceIte, Nat.reduceEqDiff, Nat.reduceAdd, Nat.reduceMul, Nat.reduceSub, Int.reduceToNat, hl, decide_eq_false hne]
  simp (disch := first | (simp only [go_sem, Bool.and_self, eq_self]; done) | omega | (simp only [List.length_cons, List.length_nil]; omega)) only [go_sem, ↓reduceIte, Nat.reduceEqDiff, Nat.reduceAdd, Nat.reduceMul, Nat.reduceSub, Int.reduceToNat, hl]
  refine WP_loopK (fun m st h => ∃ i : Nat, m = xs.length - i ∧ i ≤ xs.length ∧ st 0 = LI xs ∧ st 1 = LI ys ∧ st 5 = I i ∧ ∀ j, j < i → nth xs j = nth ys j) xs.length ⟨0, by omega, by omega, by simp (disch := first | (simp only [go_sem, Bool.and_self, eq_self]; done) | omega | (simp only [List.length_cons, List.length_nil]; omega)) only [go_sem, ↓reduceIte, Nat.reduceEqDiff, Nat.reduceAdd, Nat.reduceMul, Nat.reduceSub, Int.reduceToNat], by simp (disch := first | (simp only [go_sem, Bool.and_self, eq_self]; done) | omega | (simp only [List.length_cons, List.length_nil]; omega)) only [go_sem, ↓reduceIte, Nat.reduceEqDiff, Nat.reduceAdd, Nat.reduceMul, Nat.reduceSub, Int.reduceToNat], by simp (disch := first | (simp only [go_sem, Bool.and_self, eq_self]; done) | omega | (simp only [List.length_cons, List.length_nil]; omega)) only [go_sem, ↓reduceIte, Nat.reduceEqDiff, Nat.reduceAdd, Nat.reduceMul, Nat.reduceSub, Int.reduceToNat]; rfl, by omega⟩ ?_
  rintro n st h ⟨i, rfl, hi, s0, s1, s5, heq⟩
  by_cases hlt : i < xs.length
  case neg =>
    have : xs = ys := list_eq_of_nth hl fun j hj => heq j (by omega)
    simp (disch := first | (simp only [go_sem, Bool.and_self, eq_self]; done) | omega | (simp only [List.length_cons, List.length_nil]; omega)) only [go_sem, ↓reduceIte, Nat.reduceEqDiff, Nat.reduceAdd, Nat.reduceMul, Nat.reduceSub, Int.reduceToNat, s0, s1, s5, hlt, decide_eq_true this]
  by_cases he : nth xs i = nth ys i
  case neg =>
    have : ¬ xs = ys := fun h => he (by rw [h])
    simp (disch := first | (simp only [go_sem, Bool.and_self, eq_self]; done) | omega | (simp only [List.length_cons, List.length_nil]; omega)) only [go_sem, ↓reduceIte, Nat.reduceEqDiff, Nat.reduceAdd, Nat.reduceMul, Nat.reduceSub, Int.reduceToNat, s0, s1, s5, hlt, he, decide_eq_false this]
  simp (disch := first | (simp only [go_sem, Bool.and_self, eq_self]; done) | omega | (simp only [List.length_cons, List.length_nil]; omega)) only [go_sem, ↓reduceIte, Nat.reduceEqDiff, Nat.reduceAdd, Nat.reduceMul, Nat.reduceSub, Int.reduceToNat, s0, s1, s5, hlt, he]
  rw [LoopK_normal]
  refine ⟨xs.length - (i + 1), by omega, i + 1, rfl, by omega, ?_, ?_, ?_, ?_⟩
  · simp (disch := first | (simp only [go_sem, Bool.and_self, eq_self]; done) | omega | (simp only [List.length_cons, List.length_nil]; omega)) only [go_sem, ↓reduceIte, Nat.reduceEqDiff, Nat.reduceAdd, Nat.reduceMul, Nat.reduceSub, Int.reduceToNat, s0]
  · simp (disch := first | (simp only [go_sem, Bool.and_self, eq_self]; done) | omega | (simp only [List.length_cons, List.length_nil]; omega)) only [go_sem, ↓reduceIte, Nat.reduceEqDiff, Nat.reduceAdd, Nat.reduceMul, Nat.reduceSub, Int.reduceToNat, s1]
  · simp (disch := first | (simp only [go_sem, Bool.and_self, eq_self]; done) | omega | (simp only [List.length_cons, List.length_nil]; omega)) only [go_sem, ↓reduceIte, Nat.reduceEqDiff, Nat.reduceAdd, Nat.reduceMul, Nat.reduceSub, Int.reduceToNat]; rfl
  · intro j hj
    rcases Nat.lt_or_ge j i with h | h
    · exact heq j h
    · rwa [show j = i by omega]
end Go.Proofs.Ytkjdnnedncomgaa
