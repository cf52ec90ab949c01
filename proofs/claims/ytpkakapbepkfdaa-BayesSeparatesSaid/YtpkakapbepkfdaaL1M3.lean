/-
  Trails.
  What is opened; the reference's Active.
  graph: the set, and what is in it or has a descendant there.
  open, Active.
  Active trails that go on: the plain part.
  search: is there an active trail that goes on to a variable.
  search, Separated.
  The reference's Connected.
-/
import Derived.Test.YtpkakapbepkfdaaL1M2
set_option linter.unusedVariables false
set_option linter.unusedSimpArgs false
set_option maxRecDepth 10000
namespace Go.Proofs.Ytpkakapbepkfdaa
open Go Go.Am

variable {h h' : Hp} {K : AV → Hp → Prop}

def tE (p : List (List Int)) (l : List Int) (i : Nat) : Bool := diffE p.length l i && (i == 0 || joinB p (nth l (i - 1)) (nth l i))
def tB (p : List (List Int)) (l : List Int) : Bool := (List.range l.length).all (tE p l)
theorem tB_diff {p : List (List Int)} {l : List Int} (h : tB p l = true) : diffB p.length l = true := all_range fun i hi => by
  have := range_all h hi
  rw [tE, Bool.and_eq_true] at this; exact this.1
theorem tB_join {p : List (List Int)} {l : List Int} (h : tB p l = true) {i : Nat} (hi : i + 1 < l.length) : joinB p (nth l i) (nth l (i + 1)) = true := by
  have := range_all h hi
  rw [tE, Bool.and_eq_true] at this
  simpa using this.2
theorem diffE_inB {n : Nat} {l : List Int} {i : Nat} : diffE n l i = (inB (nth l i) 0 (n - 1) && !hasB (l.take i) (nth l i)) := by
  have : inB (nth l i) 0 ((n : Int) - 1) = (!decide (nth l i < 0) && !decide ((n : Int) ≤ nth l i)) := by
    rw [Bool.eq_iff_iff]
    simp only [inB, Bool.and_eq_true, decide_eq_true_eq, Bool.not_eq_true', decide_eq_false_iff_not]; omega
  rw [diffE, this, Bool.and_assoc]

theorem f68_con (p t : List (List Int)) (N : Net p t) (l : List Int) (hl : l.length ≤ maxLen) : Con Try.prog cfg 68 [.agg [LLI p, LLI t, I p.length], LI l] (.bool (tB p l && decide (2 ≤ l.length))) := by
  have ml : maxLen = 9223372036854775807 := by decide
  have hn1 := N.n1
  refine Con_intro Try.func68 rfl ok68 (Nat.le_of_ble_eq_true rfl) rfl ?_
  simp only [Try.f68, Option.getD_some, initSt2]
  simp (disch := first | (simp only [go_sem, Bool.and_self, eq_self]; done) | omega | (simp only [List.length_cons, List.length_nil]; omega)) only [go_sem, ↓reduceIte, Nat.reduceEqDiff, Nat.reduceAdd, Nat.reduceMul, Nat.reduceSub, Int.reduceToNat, Nat.reduceBEq, List.size_toArray, List.length_cons, List.length_nil, Bool.false_and, Bool.true_and, Bool.or_false, Bool.false_or, Bool.and_false, Bool.and_true]
  refine WP_for 9 l.length (fun i st h => st 1 = LI l ∧ st 2 = .ptr 0 0 ∧ st 7 = LI l ∧ st 8 = I l.length ∧ 1 ≤ h.nx ∧ h.bl 0 = some (.cells false false [LLI p, LLI t, I p.length]) ∧ ∀ j, j < i → tE p l j = true) (by simp (disch := first | (simp only [go_sem, Bool.and_self, eq_self]; done) | omega | (simp only [List.length_cons, List.length_nil]; omega)) only [go_sem, ↓reduceIte, Nat.reduceEqDiff, Nat.reduceAdd, Nat.reduceMul, Nat.reduceSub, Int.reduceToNat, Nat.reduceBEq, List.size_toArray, List.length_cons, List.length_nil, Bool.false_and, Bool.true_and, Bool.or_false, Bool.false_or, Bool.and_false, Bool.and_true]) ⟨by simp (disch := first | (simp only [go_sem, Bool.and_self, eq_self]; done) | omega | (simp only [List.length_cons, List.length_nil]; omega)) only [go_sem, ↓reduceIte, Nat.reduceEqDiff, Nat.reduceAdd, Nat.reduceMul, Nat.reduceSub, Int.reduceToNat, Nat.reduceBEq, List.size_toArray, List.length_cons, List.length_nil, Bool.false_and, Bool.true_and, Bool.or_false, Bool.false_or, Bool.and_false, Bool.and_true], by simp (disch := first | (simp only [go_sem, Bool.and_self, eq_self]; done) | omega | (simp only [List.length_cons, List.length_nil]; omega)) only [go_sem, ↓reduceIte, Nat.reduceEqDiff, Nat.reduceAdd, Nat.reduceMul, Nat.reduceSub, Int.reduceToNat, Nat.reduceBEq, List.size_toArray, List.length_cons, List.length_nil, Bool.false_and, Bool.true_and, Bool.or_false, Bool.false_or, Bool.and_false, Bool.and_true], by simp (disch := first | (simp only [go_sem, Bool.and_self, eq_self]; done) | omega | (simp only [List.length_cons, List.length_nil]; omega)) only [go_sem, ↓reduceIte, Nat.reduceEqDiff, Nat.reduceAdd, Nat.reduceMul, Nat.reduceSub, Int.reduceToNat, Nat.reduceBEq, List.size_toArray, List.length_cons, List.length_nil, Bool.false_and, Bool.true_and, Bool.or_false, Bool.false_or, Bool.and_false, Bool.and_true], by simp (disch := first | (simp only [go_sem, Bool.and_self, eq_self]; done) | omega | (simp only [List.length_cons, List.length_nil]; omega)) only [go_sem, ↓reduceIte, Nat.reduceEqDiff, Nat.reduceAdd, Nat.reduceMul, Nat.reduceSub, Int.reduceToNat, Nat.reduceBEq, List.size_toArray, List.length_cons, List.length_nil, Bool.false_and, Bool.true_and, Bool.or_false, Bool.false_or, Bool.and_false, Bool.and_true], by simp (disch := first | (simp only [go_sem, Bool.and_self, eq_self]; done) | omega | (simp only [List.length_cons, List.length_nil]; omega)) only [go_sem, ↓reduceIte, Nat.reduceEqDiff, Nat.reduceAdd, Nat.reduceMul, Nat.reduceSub, Int.reduceToNat, Nat.reduceBEq, List.size_toArray, List.length_cons, List.length_nil, Bool.false_and, Bool.true_and, Bool.or_false, Bool.false_or, Bool.and_false, Bool.and_true]; decide, by simp (disch := first | (simp only [go_sem, Bool.and_self, eq_self]; done) | omega | (simp only [List.length_cons, List.length_nil]; omega)) only [go_sem, ↓reduceIte, Nat.reduceEqDiff, Nat.reduceAdd, Nat.reduceMul, Nat.reduceSub, Int.reduceToNat, Nat.reduceBEq, List.size_toArray, List.length_cons, List.length_nil, Bool.false_and, Bool.true_and, Bool.or_false, Bool.false_or, Bool.and_false, Bool.and_true], by omega⟩ ?_
  rintro i st h hi s9 ⟨s1, s2, s7, s8, hnx, b0, hg⟩
  by_cases hlt : i < l.length
  case neg =>
    have hr : tB p l = true := all_range fun j hj => hg j (by omega)
    have h2 : decide (2 ≤ l.length) = decide ((2 : Int) ≤ l.length) := by rw [decide_eq_decide]; omega
    simp (disch := first | (simp only [go_sem, Bool.and_self, eq_self]; done) | omega | (simp only [List.length_cons, List.length_nil]; omega)) only [go_sem, ↓reduceIte, Nat.reduceEqDiff, Nat.reduceAdd, Nat.reduceMul, Nat.reduceSub, Int.reduceToNat, Nat.reduceBEq, List.size_toArray, List.length_cons, List.length_nil, Bool.false_and, Bool.true_and, Bool.or_false, Bool.false_or, Bool.and_false, Bool.and_true, s1, s2, s7, s8, s9, hlt, hr, h2]
  have bad : tE p l i = false → (tB p l && decide (2 ≤ l.length)) = false := fun h => by rw [tB, not_all_range hlt h, Bool.false_and]
  have hle : i ≤ l.length := by omega
  have l0 : 0 < h.nx := by omega
  have k76' := fun h h' K => k76 (h := h) (h' := h') (K := K) (l.take i) (nth l i) (by rw [List.length_take]; omega)
  cases h1 : inB (nth l i) 0 (p.length - 1) with
  | false =>
    have q := bad (by rw [tE, diffE_inB, h1]; rfl)
    simp (disch := first | (simp only [go_sem, Bool.and_self, eq_self]; done) | omega | (simp only [List.length_cons, List.length_nil]; omega)) only [go_sem, ↓reduceIte, Nat.reduceEqDiff, Nat.reduceAdd, Nat.reduceMul, Nat.reduceSub, Int.reduceToNat, Nat.reduceBEq, List.size_toArray, List.length_cons, List.length_nil, Bool.false_and, Bool.true_and, Bool.or_false, Bool.false_or, Bool.and_false, Bool.and_true, s1, s2, s7, s8, s9, hlt, b0, l0, h1, q]
  | true =>
  cases h3 : hasB (l.take i) (nth l i) with
  | true =>
    have q := bad (by rw [tE, diffE_inB, h1, h3]; rfl)
    simp (disch := first | (simp only [go_sem, Bool.and_self, eq_self]; done) | omega | (simp only [List.length_cons, List.length_nil]; omega)) only [go_sem, ↓reduceIte, Nat.reduceEqDiff, Nat.reduceAdd, Nat.reduceMul, Nat.reduceSub, Int.reduceToNat, Nat.reduceBEq, List.size_toArray, List.length_cons, List.length_nil, Bool.false_and, Bool.true_and, Bool.or_false, Bool.false_or, Bool.and_false, Bool.and_true, s1, s2, s7, s8, s9, hlt, b0, l0, h1, h3, hle, k76', q]
  | false =>
  have hin : 0 ≤ nth l i ∧ nth l i < p.length := by
    simp only [inB, Bool.and_eq_true, decide_eq_true_eq] at h1; omega
  by_cases hi0 : 0 < i
  case neg =>
    have hi00 : i = 0 := by omega
    have hid : decide ((0 : Int) < (i : Int)) = false := by simp; omega
    have q : tE p l i = true := by rw [tE, diffE_inB, h1, h3, hi00]; rfl
    simp (disch := first | (simp only [go_sem, Bool.and_self, eq_self]; done) | omega | (simp only [List.length_cons, List.length_nil]; omega)) only [go_sem, ↓reduceIte, Nat.reduceEqDiff, Nat.reduceAdd, Nat.reduceMul, Nat.reduceSub, Int.reduceToNat, Nat.reduceBEq, List.size_toArray, List.length_cons, List.length_nil, Bool.false_and, Bool.true_and, Bool.or_false, Bool.false_or, Bool.and_false, Bool.and_true, s1, s2, s7, s8, s9, hlt, b0, l0, h1, h3, hle, k76', hid]
    rw [ForK_normal]
    exact ⟨hlt, by simp (disch := first | (simp only [go_sem, Bool.and_self, eq_self]; done) | omega | (simp only [List.length_cons, List.length_nil]; omega)) only [go_sem, ↓reduceIte, Nat.reduceEqDiff, Nat.reduceAdd, Nat.reduceMul, Nat.reduceSub, Int.reduceToNat, Nat.reduceBEq, List.size_toArray, List.length_cons, List.length_nil, Bool.false_and, Bool.true_and, Bool.or_false, Bool.false_or, Bool.and_false, Bool.and_true, s9], by simp (disch := first | (simp only [go_sem, Bool.and_self, eq_self]; done) | omega | (simp only [List.length_cons, List.length_nil]; omega)) only [go_sem, ↓reduceIte, Nat.reduceEqDiff, Nat.reduceAdd, Nat.reduceMul, Nat.reduceSub, Int.reduceToNat, Nat.reduceBEq, List.size_toArray, List.length_cons, List.length_nil, Bool.false_and, Bool.true_and, Bool.or_false, Bool.false_or, Bool.and_false, Bool.and_true, s1], by simp (disch := first | (simp only [go_sem, Bool.and_self, eq_self]; done) | omega | (simp only [List.length_cons, List.length_nil]; omega)) only [go_sem, ↓reduceIte, Nat.reduceEqDiff, Nat.reduceAdd, Nat.reduceMul, Nat.reduceSub, Int.reduceToNat, Nat.reduceBEq, List.size_toArray, List.length_cons, List.length_nil, Bool.false_and, Bool.true_and, Bool.or_false, Bool.false_or, Bool.and_false, Bool.and_true, s2], by simp (disch := first | (simp only [go_sem, Bool.and_self, eq_self]; done) | omega | (simp only [List.length_cons, List.length_nil]; omega)) only [go_sem, ↓reduceIte, Nat.reduceEqDiff, Nat.reduceAdd, Nat.reduceMul, Nat.reduceSub, Int.reduceToNat, Nat.reduceBEq, List.size_toArray, List.length_cons, List.length_nil, Bool.false_and, Bool.true_and, Bool.or_false, Bool.false_or, Bool.and_false, Bool.and_true, s7], by simp (disch := first | (simp only [go_sem, Bool.and_self, eq_self]; done) | omega | (simp only [List.length_cons, List.length_nil]; omega)) only [go_sem, ↓reduceIte, Nat.reduceEqDiff, Nat.reduceAdd, Nat.reduceMul, Nat.reduceSub, Int.reduceToNat, Nat.reduceBEq, List.size_toArray, List.length_cons, List.length_nil, Bool.false_and, Bool.true_and, Bool.or_false, Bool.false_or, Bool.and_false, Bool.and_true, s8], hnx, b0, fun j hj => by
      rcases Nat.lt_or_ge j i with h | h
      · exact hg j h
      · rw [show j = i by omega]; exact q⟩
  have hid : decide ((0 : Int) < (i : Int)) = true := by simp; omega
  have hprev := hg (i - 1) (by omega)
  have hpin : 0 ≤ nth l (i - 1) ∧ nth l (i - 1) < p.length := by
    rw [tE, Bool.and_eq_true, diffE] at hprev
    simp only [Bool.and_eq_true, Bool.not_eq_true', decide_eq_false_iff_not] at hprev
    omega
  have k75' := fun h h' K => k75 (h := h) (h' := h') (K := K) p t N (nth l (i - 1)) (nth l i) hpin hin
  have hi1 : ((i : Int) - 1).toNat = i - 1 := by omega
  have hi2 : (0 : Int) ≤ (i : Int) - 1 := by omega
  have hi3 : (i : Int) - 1 < l.length := by omega
  cases h4 : joinB p (nth l (i - 1)) (nth l i) with
  | false =>
    have q := bad (by rw [tE, h4]; simp; omega)
    simp (disch := first | (simp only [go_sem, Bool.and_self, eq_self]; done) | omega | (simp only [List.length_cons, List.length_nil]; omega)) only [go_sem, ↓reduceIte, Nat.reduceEqDiff, Nat.reduceAdd, Nat.reduceMul, Nat.reduceSub, Int.reduceToNat, Nat.reduceBEq, List.size_toArray, List.length_cons, List.length_nil, Bool.false_and, Bool.true_and, Bool.or_false, Bool.false_or, Bool.and_false, Bool.and_true, s1, s2, s7, s8, s9, hlt, b0, l0, h1, h3, hle, k76', hid, k75', hi1, hi2, hi3, h4, q]
  | true =>
    have q : tE p l i = true := by rw [tE, diffE_inB, h1, h3, h4]; simp
    simp (disch := first | (simp only [go_sem, Bool.and_self, eq_self]; done) | omega | (simp only [List.length_cons, List.length_nil]; omega)) only [go_sem, ↓reduceIte, Nat.reduceEqDiff, Nat.reduceAdd, Nat.reduceMul, Nat.reduceSub, Int.reduceToNat, Nat.reduceBEq, List.size_toArray, List.length_cons, List.length_nil, Bool.false_and, Bool.true_and, Bool.or_false, Bool.false_or, Bool.and_false, Bool.and_true, s1, s2, s7, s8, s9, hlt, b0, l0, h1, h3, hle, k76', hid, k75', hi1, hi2, hi3, h4]
    rw [ForK_normal]
    exact ⟨hlt, by simp (disch := first | (simp only [go_sem, Bool.and_self, eq_self]; done) | omega | (simp only [List.length_cons, List.length_nil]; omega)) only [go_sem, ↓reduceIte, Nat.reduceEqDiff, Nat.reduceAdd, Nat.reduceMul, Nat.reduceSub, Int.reduceToNat, Nat.reduceBEq, List.size_toArray, List.length_cons, List.length_nil, Bool.false_and, Bool.true_and, Bool.or_false, Bool.false_or, Bool.and_false, Bool.and_true, s9], by simp (disch := first | (simp only [go_sem, Bool.and_self, eq_self]; done) | omega | (simp only [List.length_cons, List.length_nil]; omega)) only [go_sem, ↓reduceIte, Nat.reduceEqDiff, Nat.reduceAdd, Nat.reduceMul, Nat.reduceSub, Int.reduceToNat, Nat.reduceBEq, List.size_toArray, List.length_cons, List.length_nil, Bool.false_and, Bool.true_and, Bool.or_false, Bool.false_or, Bool.and_false, Bool.and_true, s1], by simp (disch := first | (simp only [go_sem, Bool.and_self, eq_self]; done) | omega | (simp only [List.length_cons, List.length_nil]; omega)) only [go_sem, ↓reduceIte, Nat.reduceEqDiff, Nat.reduceAdd, Nat.reduceMul, Nat.reduceSub, Int.reduceToNat, Nat.reduceBEq, List.size_toArray, List.length_cons, List.length_nil, Bool.false_and, Bool.true_and, Bool.or_false, Bool.false_or, Bool.and_false, Bool.and_true, s2], by simp (disch := first | (simp only [go_sem, Bool.and_self, eq_self]; done) | omega | (simp only [List.length_cons, List.length_nil]; omega)) only [go_sem, ↓reduceIte, Nat.reduceEqDiff, Nat.reduceAdd, Nat.reduceMul, Nat.reduceSub, Int.reduceToNat, Nat.reduceBEq, List.size_toArray, List.length_cons, List.length_nil, Bool.false_and, Bool.true_and, Bool.or_false, Bool.false_or, Bool.and_false, Bool.and_true, s7], by simp (disch := first | (simp only [go_sem, Bool.and_self, eq_self]; done) | omega | (simp only [List.length_cons, List.length_nil]; omega)) only [go_sem, ↓reduceIte, Nat.reduceEqDiff, Nat.reduceAdd, Nat.reduceMul, Nat.reduceSub, Int.reduceToNat, Nat.reduceBEq, List.size_toArray, List.length_cons, List.length_nil, Bool.false_and, Bool.true_and, Bool.or_false, Bool.false_or, Bool.and_false, Bool.and_true, s8], hnx, b0, fun j hj => by
      rcases Nat.lt_or_ge j i with h | h
      · exact hg j h
      · rw [show j = i by omega]; exact q⟩

theorem f28_con (p t : List (List Int)) (N : Net p t) (l : List Int) (hl : l.length + 1 ≤ maxLen) : Con Try.prog cfg 28 [.agg [LLI p, LLI t], LI l] (.bool (tB p l)) := by
  have ml : maxLen = 9223372036854775807 := by decide
  have hn1 := N.n1
  have k26 := fun h h' K => ConW_num (h := h) (h' := h') (K := K) (f26_con p.length l (by omega)) rfl
  cases hd : diffB p.length l with
  | false =>
    have hr : tB p l = false := by
      rw [Bool.eq_false_iff]; intro h; rw [tB_diff h] at hd; cases hd
    refine Con_intro Try.func28 rfl ok28 (Nat.le_of_ble_eq_true rfl) rfl ?_
    simp only [Try.f28, Option.getD_some, initSt2]
    simp (disch := first | (simp only [go_sem, Bool.and_self, eq_self]; done) | omega | (simp only [List.length_cons, List.length_nil]; omega)) only [go_sem, ↓reduceIte, Nat.reduceEqDiff, Nat.reduceAdd, Nat.reduceMul, Nat.reduceSub, Int.reduceToNat, Nat.reduceBEq, List.size_toArray, List.length_cons, List.length_nil, Bool.false_and, Bool.true_and, Bool.or_false, Bool.false_or, Bool.and_false, Bool.and_true, k26, hd, hr]
  | true =>
  refine Con_intro Try.func28 rfl ok28 (Nat.le_of_ble_eq_true rfl) rfl ?_
  simp only [Try.f28, Option.getD_some, initSt2]
  simp (disch := first | (simp only [go_sem, Bool.and_self, eq_self]; done) | omega | (simp only [List.length_cons, List.length_nil]; omega)) only [go_sem, ↓reduceIte, Nat.reduceEqDiff, Nat.reduceAdd, Nat.reduceMul, Nat.reduceSub, Int.reduceToNat, Nat.reduceBEq, List.size_toArray, List.length_cons, List.length_nil, Bool.false_and, Bool.true_and, Bool.or_false, Bool.false_or, Bool.and_false, Bool.and_true, k26, hd]
  have ok : (∀ j, j + 1 < l.length → joinB p (nth l j) (nth l (j + 1)) = true) → tB p l = true := fun h => all_range fun i hi => by
    have hdi := range_all hd hi
    rw [tE, hdi, Bool.true_and]
    cases i with
    | zero => rfl
    | succ i => simpa using h i hi
  refine WP_for 5 l.length (fun i st h => st 1 = LI l ∧ st 2 = .ptr 0 0 ∧ 1 ≤ h.nx ∧ h.bl 0 = some (.cells false false [LLI p, LLI t]) ∧ ∀ j, j < i → j + 1 < l.length → joinB p (nth l j) (nth l (j + 1)) = true) (by simp (disch := first | (simp only [go_sem, Bool.and_self, eq_self]; done) | omega | (simp only [List.length_cons, List.length_nil]; omega)) only [go_sem, ↓reduceIte, Nat.reduceEqDiff, Nat.reduceAdd, Nat.reduceMul, Nat.reduceSub, Int.reduceToNat, Nat.reduceBEq, List.size_toArray, List.length_cons, List.length_nil, Bool.false_and, Bool.true_and, Bool.or_false, Bool.false_or, Bool.and_false, Bool.and_true]) ⟨by simp (disch := first | (simp only [go_sem, Bool.and_self, eq_self]; done) | omega | (simp only [List.length_cons, List.length_nil]; omega)) only [go_sem, ↓reduceIte, Nat.reduceEqDiff, Nat.reduceAdd, Nat.reduceMul, Nat.reduceSub, Int.reduceToNat, Nat.reduceBEq, List.size_toArray, List.length_cons, List.length_nil, Bool.false_and, Bool.true_and, Bool.or_false, Bool.false_or, Bool.and_false, Bool.and_true], by simp (disch := first | (simp only [go_sem, Bool.and_self, eq_self]; done) | omega | (simp only [List.length_cons, List.length_nil]; omega)) only [go_sem, ↓reduceIte, Nat.reduceEqDiff, Nat.reduceAdd, Nat.reduceMul, Nat.reduceSub, Int.reduceToNat, Nat.reduceBEq, List.size_toArray, List.length_cons, List.length_nil, Bool.false_and, Bool.true_and, Bool.or_false, Bool.false_or, Bool.and_false, Bool.and_true], by simp (disch := first | (simp only [go_sem, Bool.and_self, eq_self]; done) | omega | (simp only [List.length_cons, List.length_nil]; omega)) only [go_sem, ↓reduceIte, Nat.reduceEqDiff, Nat.reduceAdd, Nat.reduceMul, Nat.reduceSub, Int.reduceToNat, Nat.reduceBEq, List.size_toArray, List.length_cons, List.length_nil, Bool.false_and, Bool.true_and, Bool.or_false, Bool.false_or, Bool.and_false, Bool.and_true]; decide, by simp (disch := first | (simp only [go_sem, Bool.and_self, eq_self]; done) | omega | (simp only [List.length_cons, List.length_nil]; omega)) only [go_sem, ↓reduceIte, Nat.reduceEqDiff, Nat.reduceAdd, Nat.reduceMul, Nat.reduceSub, Int.reduceToNat, Nat.reduceBEq, List.size_toArray, List.length_cons, List.length_nil, Bool.false_and, Bool.true_and, Bool.or_false, Bool.false_or, Bool.and_false, Bool.and_true], by omega⟩ ?_
  rintro i st h hi s5 ⟨s1, s2, hnx, b0, hg⟩
  by_cases hlt : i + 1 < l.length
  case neg =>
    have hr : tB p l = true := ok fun j hj => hg j (by omega) hj
    have hlt' : ¬ (i : Int) + 1 < l.length := by omega
    simp (disch := first | (simp only [go_sem, Bool.and_self, eq_self]; done) | omega | (simp only [List.length_cons, List.length_nil]; omega)) only [go_sem, ↓reduceIte, Nat.reduceEqDiff, Nat.reduceAdd, Nat.reduceMul, Nat.reduceSub, Int.reduceToNat, Nat.reduceBEq, List.size_toArray, List.length_cons, List.length_nil, Bool.false_and, Bool.true_and, Bool.or_false, Bool.false_or, Bool.and_false, Bool.and_true, s1, s2, s5, hlt', hr]
  have hlt' : (i : Int) + 1 < l.length := by omega
  have hli : i < l.length := by omega
  have l0 : 0 < h.nx := by omega
  obtain ⟨a0, a1⟩ := diffB_in hd hli
  obtain ⟨c0, c1⟩ := diffB_in hd hlt
  have hj1 : ((i : Int) + 1).toNat = i + 1 := by omega
  have hj2 : (0 : Int) ≤ (i : Int) + 1 := by omega
  have hpa := N.pl (nth l i).toNat (by omega)
  have hpc := N.pl (nth l (i + 1)).toNat (by omega)
  have ka := fun h h' K => k60 (h := h) (h' := h') (K := K) (nth p (nth l i).toNat) (nth l (i + 1)) (by omega)
  have kc := fun h h' K => k60 (h := h) (h' := h') (K := K) (nth p (nth l (i + 1)).toNat) (nth l i) (by omega)
  have hjr : joinB p (nth l i) (nth l (i + 1)) = (hasB (nth p (nth l (i + 1)).toNat) (nth l i) || hasB (nth p (nth l i).toNat) (nth l (i + 1))) := rfl
  have fin : joinB p (nth l i) (nth l (i + 1)) = true → ∀ j, j < i + 1 → j + 1 < l.length → joinB p (nth l j) (nth l (j + 1)) = true := fun h j hj hj2 => by
    rcases Nat.lt_or_ge j i with h3 | h3
    · exact hg j h3 hj2
    · rw [show j = i by omega]; exact h
  cases h1 : hasB (nth p (nth l i).toNat) (nth l (i + 1)) with
  | true =>
    simp (disch := first | (simp only [go_sem, Bool.and_self, eq_self]; done) | omega | (simp only [List.length_cons, List.length_nil]; omega)) only [go_sem, ↓reduceIte, Nat.reduceEqDiff, Nat.reduceAdd, Nat.reduceMul, Nat.reduceSub, Int.reduceToNat, Nat.reduceBEq, List.size_toArray, List.length_cons, List.length_nil, Bool.false_and, Bool.true_and, Bool.or_false, Bool.false_or, Bool.and_false, Bool.and_true, s1, s2, s5, hlt', hli, hlt, b0, l0, a0, a1, c0, c1, hj1, hj2, ka, h1]
    rw [ForK_normal]
    exact ⟨hli, by simp (disch := first | (simp only [go_sem, Bool.and_self, eq_self]; done) | omega | (simp only [List.length_cons, List.length_nil]; omega)) only [go_sem, ↓reduceIte, Nat.reduceEqDiff, Nat.reduceAdd, Nat.reduceMul, Nat.reduceSub, Int.reduceToNat, Nat.reduceBEq, List.size_toArray, List.length_cons, List.length_nil, Bool.false_and, Bool.true_and, Bool.or_false, Bool.false_or, Bool.and_false, Bool.and_true, s5], by simp (disch := first | (simp only [go_sem, Bool.and_self, eq_self]; done) | omega | (simp only [List.length_cons, List.length_nil]; omega)) only [go_sem, ↓reduceIte, Nat.reduceEqDiff, Nat.reduceAdd, Nat.reduceMul, Nat.reduceSub, Int.reduceToNat, Nat.reduceBEq, List.size_toArray, List.length_cons, List.length_nil, Bool.false_and, Bool.true_and, Bool.or_false, Bool.false_or, Bool.and_false, Bool.and_true, s1], by simp (disch := first | (simp only [go_sem, Bool.and_self, eq_self]; done) | omega | (simp only [List.length_cons, List.length_nil]; omega)) only [go_sem, ↓reduceIte, Nat.reduceEqDiff, Nat.reduceAdd, Nat.reduceMul, Nat.reduceSub, Int.reduceToNat, Nat.reduceBEq, List.size_toArray, List.length_cons, List.length_nil, Bool.false_and, Bool.true_and, Bool.or_false, Bool.false_or, Bool.and_false, Bool.and_true, s2], hnx, b0, fin (by rw [hjr, h1, Bool.or_true])⟩
  | false =>
  cases h2 : hasB (nth p (nth l (i + 1)).toNat) (nth l i) with
  | true =>
    simp (disch := first | (simp only [go_sem, Bool.and_self, eq_self]; done) | omega | (simp only [List.length_cons, List.length_nil]; omega)) only [go_sem, ↓reduceIte, Nat.reduceEqDiff, Nat.reduceAdd, Nat.reduceMul, Nat.reduceSub, Int.reduceToNat, Nat.reduceBEq, List.size_toArray, List.length_cons, List.length_nil, Bool.false_and, Bool.true_and, Bool.or_false, Bool.false_or, Bool.and_false, Bool.and_true, s1, s2, s5, hlt', hli, hlt, b0, l0, a0, a1, c0, c1, hj1, hj2, ka, kc, h1, h2]
    rw [ForK_normal]
    exact ⟨hli, by simp (disch := first | (simp only [go_sem, Bool.and_self, eq_self]; done) | omega | (simp only [List.length_cons, List.length_nil]; omega)) only [go_sem, ↓reduceIte, Nat.reduceEqDiff, Nat.reduceAdd, Nat.reduceMul, Nat.reduceSub, Int.reduceToNat, Nat.reduceBEq, List.size_toArray, List.length_cons, List.length_nil, Bool.false_and, Bool.true_and, Bool.or_false, Bool.false_or, Bool.and_false, Bool.and_true, s5], by simp (disch := first | (simp only [go_sem, Bool.and_self, eq_self]; done) | omega | (simp only [List.length_cons, List.length_nil]; omega)) only [go_sem, ↓reduceIte, Nat.reduceEqDiff, Nat.reduceAdd, Nat.reduceMul, Nat.reduceSub, Int.reduceToNat, Nat.reduceBEq, List.size_toArray, List.length_cons, List.length_nil, Bool.false_and, Bool.true_and, Bool.or_false, Bool.false_or, Bool.and_false, Bool.and_true, s1], by simp (disch := first | (simp only [go_sem, Bool.and_self, eq_self]; done) | omega | (simp only [List.length_cons, List.length_nil]; omega)) only [go_sem, ↓reduceIte, Nat.reduceEqDiff, Nat.reduceAdd, Nat.reduceMul, Nat.reduceSub, Int.reduceToNat, Nat.reduceBEq, List.size_toArray, List.length_cons, List.length_nil, Bool.false_and, Bool.true_and, Bool.or_false, Bool.false_or, Bool.and_false, Bool.and_true, s2], hnx, b0, fin (by rw [hjr, h2, Bool.true_or])⟩
  | false =>
    have q : tB p l = false := by
      rw [Bool.eq_false_iff]; intro h
      have := tB_join h hlt
      rw [hjr, h1, h2] at this; cases this
    simp (disch := first | (simp only [go_sem, Bool.and_self, eq_self]; done) | omega | (simp only [List.length_cons, List.length_nil]; omega)) only [go_sem, ↓reduceIte, Nat.reduceEqDiff, Nat.reduceAdd, Nat.reduceMul, Nat.reduceSub, Int.reduceToNat, Nat.reduceBEq, List.size_toArray, List.length_cons, List.length_nil, Bool.false_and, Bool.true_and, Bool.or_false, Bool.false_or, Bool.and_false, Bool.and_true, s1, s2, s5, hlt', hli, hlt, b0, l0, a0, a1, c0, c1, hj1, hj2, ka, kc, h1, h2, q]

end Go.Proofs.Ytpkakapbepkfdaa

set_option linter.unusedVariables false
set_option linter.unusedSimpArgs false
set_option maxRecDepth 10000
namespace Go.Proofs.Ytpkakapbepkfdaa
open Go Go.Am

variable {h h' : Hp} {K : AV → Hp → Prop}

/-- In the set, or with a descendant in it. -/
inductive Low (p : List (List Int)) (s : List Int) : Nat → Prop
  | base {x : Nat} (h : (x : Int) ∈ s) : Low p s x
  | step {x c : Nat} (hc : c < p.length) (h : (x : Int) ∈ nth p c) (l : Low p s c) : Low p s x
inductive Desc (p : List (List Int)) (v : Nat) : Nat → Prop
  | par {w : Nat} (hw : w < p.length) (h : (v : Int) ∈ nth p w) : Desc p v w
  | step {w q : Nat} (hw : w < p.length) (h : (q : Int) ∈ nth p w) (d : Desc p v q) : Desc p v w
open Classical in
noncomputable def lowB (p : List (List Int)) (s : List Int) (v : Nat) : Bool := decide (Low p s v)
open Classical in
theorem lowB_iff {p : List (List Int)} {s : List Int} {v : Nat} : lowB p s v = true ↔ Low p s v := by unfold lowB; exact decide_eq_true_iff
theorem mem_par {p t : List (List Int)} (N : Net p t) {w : Nat} (hw : w < p.length) {x : Int} (h : x ∈ nth p w) : 0 ≤ x ∧ x < w := by
  obtain ⟨j, hj, rfl⟩ := List.getElem_of_mem h
  rw [← nth_getElem hj]; exact N.par w j hw hj
theorem Desc.lt {p t : List (List Int)} (N : Net p t) {v w : Nat} (d : Desc p v w) : v < w := by
  induction d with
  | par hw h => have := mem_par N hw h; omega
  | step hw h _ ih => have := mem_par N hw h; omega
theorem Desc.low {p : List (List Int)} {s : List Int} {v w : Nat} (d : Desc p v w) : Low p s w → Low p s v := by
  induction d with
  | par hw h => exact fun l => .step hw h l
  | step hw h _ ih => exact fun l => ih (.step hw h l)
theorem Desc.front {p : List (List Int)} {x c w : Nat} (hc : c < p.length) (h : (x : Int) ∈ nth p c) (d : Desc p c w) : Desc p x w := by
  induction d with
  | par hw hq => exact .step hw hq (.par hc h)
  | step hw hq _ ih => exact .step hw hq ih
theorem Low.desc {p : List (List Int)} {s : List Int} {v : Nat} (l : Low p s v) : ∃ w : Nat, (w : Int) ∈ s ∧ (w = v ∨ Desc p v w) := by
  induction l with
  | base h => exact ⟨_, h, .inl rfl⟩
  | step hc h _ ih =>
    obtain ⟨w, hw, h2⟩ := ih
    refine ⟨w, hw, .inr ?_⟩
    rcases h2 with rfl | h2
    · exact .par hc h
    · exact Desc.front hc h h2
theorem Seen.iff {p t : List (List Int)} (N : Net p t) {v : Nat} {bs : List Bool} (S : Seen p v bs p.length) : ∀ w, w < p.length → (nth bs w = true ↔ Desc p v w) := by
  intro w
  induction w using Nat.strongRecOn with
  | ind w ih =>
    intro hw
    rcases Nat.lt_or_ge v w with hvw | hvw
    · rw [S.hi w hvw hw, List.any_eq_true]
      constructor
      · rintro ⟨j, hj, h⟩
        have hj' : j < (nth p w).length := by simpa using hj
        have hm : nth (nth p w) j ∈ nth p w := nth_mem hj'
        obtain ⟨p0, p1⟩ := N.par w j hw hj'
        simp only [Bool.or_eq_true, decide_eq_true_eq] at h
        rcases h with h | h
        · rw [h] at hm; exact .par hw hm
        · have hd := (ih (nth (nth p w) j).toNat (by omega) (by omega)).1 h
          refine .step hw (q := (nth (nth p w) j).toNat) ?_ hd
          rw [show (((nth (nth p w) j).toNat : Nat) : Int) = nth (nth p w) j by omega]; exact hm
      · intro d
        have key : ∀ x : Int, x ∈ nth p w → (x = v ∨ nth bs x.toNat = true) → ∃ j, j ∈ List.range (nth p w).length ∧ (decide (nth (nth p w) j = (v : Int)) || nth bs (nth (nth p w) j).toNat) = true := fun x hx h => by
          obtain ⟨j, hj, rfl⟩ := List.getElem_of_mem hx
          refine ⟨j, by simpa using hj, ?_⟩
          rw [nth_getElem hj]
          simp only [Bool.or_eq_true, decide_eq_true_eq]; exact h
        cases d with
        | par _ h => exact key v h (.inl rfl)
        | @step _ q _ h d =>
          have hq := mem_par N hw h
          exact key q h (.inr (by rw [Int.toNat_natCast]; exact (ih q (by omega) (by omega)).2 d))
    · constructor
      · intro h; rw [S.lo w hvw] at h; cases h
      · intro d; have := d.lt N; omega

theorem f61_con (p t : List (List Int)) (N : Net p t) (v : Nat) (hv : v < p.length) (s : List Int) (hl : s.length ≤ maxLen) (hs : ∀ i, i < s.length → 0 ≤ nth s i ∧ nth s i < p.length) : Con Try.prog cfg 61 [.agg [LLI p, LLI t], I v, LI s] (.bool (lowB p s v)) := by
  have ml : maxLen = 9223372036854775807 := by decide
  refine Con_intro Try.func61 rfl ok61 (Nat.le_of_ble_eq_true rfl) rfl ?_
  simp only [Try.f61, Option.getD_some, initSt3]
  simp (disch := first | (simp only [go_sem, Bool.and_self, eq_self]; done) | omega | (simp only [List.length_cons, List.length_nil]; omega)) only [go_sem, ↓reduceIte, Nat.reduceEqDiff, Nat.reduceAdd, Nat.reduceMul, Nat.reduceSub, Int.reduceToNat, Nat.reduceBEq, List.size_toArray, List.length_cons, List.length_nil, Bool.false_and, Bool.true_and, Bool.or_false, Bool.false_or, Bool.and_false, Bool.and_true]
  refine WP_for 7 s.length (fun i st h => st 1 = I v ∧ st 2 = LI s ∧ st 3 = .ptr 0 0 ∧ 1 ≤ h.nx ∧ h.bl 0 = some (.cells false false [LLI p, LLI t]) ∧ ∀ j, j < i → nth s j ≠ v ∧ ¬ Desc p v (nth s j).toNat) (by simp (disch := first | (simp only [go_sem, Bool.and_self, eq_self]; done) | omega | (simp only [List.length_cons, List.length_nil]; omega)) only [go_sem, ↓reduceIte, Nat.reduceEqDiff, Nat.reduceAdd, Nat.reduceMul, Nat.reduceSub, Int.reduceToNat, Nat.reduceBEq, List.size_toArray, List.length_cons, List.length_nil, Bool.false_and, Bool.true_and, Bool.or_false, Bool.false_or, Bool.and_false, Bool.and_true]) ⟨by simp (disch := first | (simp only [go_sem, Bool.and_self, eq_self]; done) | omega | (simp only [List.length_cons, List.length_nil]; omega)) only [go_sem, ↓reduceIte, Nat.reduceEqDiff, Nat.reduceAdd, Nat.reduceMul, Nat.reduceSub, Int.reduceToNat, Nat.reduceBEq, List.size_toArray, List.length_cons, List.length_nil, Bool.false_and, Bool.true_and, Bool.or_false, Bool.false_or, Bool.and_false, Bool.and_true], by simp (disch := first | (simp only [go_sem, Bool.and_self, eq_self]; done) | omega | (simp only [List.length_cons, List.length_nil]; omega)) only [go_sem, ↓reduceIte, Nat.reduceEqDiff, Nat.reduceAdd, Nat.reduceMul, Nat.reduceSub, Int.reduceToNat, Nat.reduceBEq, List.size_toArray, List.length_cons, List.length_nil, Bool.false_and, Bool.true_and, Bool.or_false, Bool.false_or, Bool.and_false, Bool.and_true], by simp (disch := first | (simp only [go_sem, Bool.and_self, eq_self]; done) | omega | (simp only [List.length_cons, List.length_nil]; omega)) only [go_sem, ↓reduceIte, Nat.reduceEqDiff, Nat.reduceAdd, Nat.reduceMul, Nat.reduceSub, Int.reduceToNat, Nat.reduceBEq, List.size_toArray, List.length_cons, List.length_nil, Bool.false_and, Bool.true_and, Bool.or_false, Bool.false_or, Bool.and_false, Bool.and_true], by simp (disch := first | (simp only [go_sem, Bool.and_self, eq_self]; done) | omega | (simp only [List.length_cons, List.length_nil]; omega)) only [go_sem, ↓reduceIte, Nat.reduceEqDiff, Nat.reduceAdd, Nat.reduceMul, Nat.reduceSub, Int.reduceToNat, Nat.reduceBEq, List.size_toArray, List.length_cons, List.length_nil, Bool.false_and, Bool.true_and, Bool.or_false, Bool.false_or, Bool.and_false, Bool.and_true]; decide, by simp (disch := first | (simp only [go_sem, Bool.and_self, eq_self]; done) | omega | (simp only [List.length_cons, List.length_nil]; omega)) only [go_sem, ↓reduceIte, Nat.reduceEqDiff, Nat.reduceAdd, Nat.reduceMul, Nat.reduceSub, Int.reduceToNat, Nat.reduceBEq, List.size_toArray, List.length_cons, List.length_nil, Bool.false_and, Bool.true_and, Bool.or_false, Bool.false_or, Bool.and_false, Bool.and_true], by omega⟩ ?_
  rintro i st h hi s7 ⟨s1, s2, s3, hnx, b0, hg⟩
  by_cases hlt : i < s.length
  case neg =>
    have hr : lowB p s v = false := by
      rw [Bool.eq_false_iff]; intro h
      obtain ⟨w, hw, h2⟩ := (lowB_iff.1 h).desc
      obtain ⟨j, hj, he⟩ := List.getElem_of_mem hw
      have := hg j (by omega)
      rw [nth_getElem hj, he, Int.toNat_natCast] at this
      rcases h2 with rfl | h2
      · exact this.1 rfl
      · exact this.2 h2
    simp (disch := first | (simp only [go_sem, Bool.and_self, eq_self]; done) | omega | (simp only [List.length_cons, List.length_nil]; omega)) only [go_sem, ↓reduceIte, Nat.reduceEqDiff, Nat.reduceAdd, Nat.reduceMul, Nat.reduceSub, Int.reduceToNat, Nat.reduceBEq, List.size_toArray, List.length_cons, List.length_nil, Bool.false_and, Bool.true_and, Bool.or_false, Bool.false_or, Bool.and_false, Bool.and_true, s1, s2, s3, s7, hlt, hr]
  have l0 : 0 < h.nx := by omega
  obtain ⟨x0, x1⟩ := hs i hlt
  have hmem : nth s i ∈ s := nth_mem hlt
  have hxn : (((nth s i).toNat : Nat) : Int) = nth s i := by omega
  by_cases he : nth s i = (v : Int)
  · have hr : lowB p s v = true := lowB_iff.2 (.base (by rw [← he]; exact hmem))
    have he' : decide (nth s i = (v : Int)) = true := by simp [he]
    simp (disch := first | (simp only [go_sem, Bool.and_self, eq_self]; done) | omega | (simp only [List.length_cons, List.length_nil]; omega)) only [go_sem, ↓reduceIte, Nat.reduceEqDiff, Nat.reduceAdd, Nat.reduceMul, Nat.reduceSub, Int.reduceToNat, Nat.reduceBEq, List.size_toArray, List.length_cons, List.length_nil, Bool.false_and, Bool.true_and, Bool.or_false, Bool.false_or, Bool.and_false, Bool.and_true, s1, s2, s3, s7, hlt, he', hr]
  have he' : decide (nth s i = (v : Int)) = false := by simp [he]
  obtain ⟨bs, S, c⟩ := f45_con p t N v (nth s i).toNat hv (by omega)
  rw [hxn] at c
  have kc := fun h h' K => ConW_num (h := h) (h' := h') (K := K) c rfl
  have hiff := S.iff N (nth s i).toNat (by omega)
  cases hb : nth bs (nth s i).toNat with
  | true =>
    have hr : lowB p s v = true := lowB_iff.2 ((hiff.1 hb).low (.base (by rw [hxn]; exact hmem)))
    simp (disch := first | (simp only [go_sem, Bool.and_self, eq_self]; done) | omega | (simp only [List.length_cons, List.length_nil]; omega)) only [go_sem, ↓reduceIte, Nat.reduceEqDiff, Nat.reduceAdd, Nat.reduceMul, Nat.reduceSub, Int.reduceToNat, Nat.reduceBEq, List.size_toArray, List.length_cons, List.length_nil, Bool.false_and, Bool.true_and, Bool.or_false, Bool.false_or, Bool.and_false, Bool.and_true, s1, s2, s3, s7, hlt, he', b0, l0, kc, hb, hr]
  | false =>
    simp (disch := first | (simp only [go_sem, Bool.and_self, eq_self]; done) | omega | (simp only [List.length_cons, List.length_nil]; omega)) only [go_sem, ↓reduceIte, Nat.reduceEqDiff, Nat.reduceAdd, Nat.reduceMul, Nat.reduceSub, Int.reduceToNat, Nat.reduceBEq, List.size_toArray, List.length_cons, List.length_nil, Bool.false_and, Bool.true_and, Bool.or_false, Bool.false_or, Bool.and_false, Bool.and_true, s1, s2, s3, s7, hlt, he', b0, l0, kc, hb]
    rw [ForK_normal]
    exact ⟨hlt, by simp (disch := first | (simp only [go_sem, Bool.and_self, eq_self]; done) | omega | (simp only [List.length_cons, List.length_nil]; omega)) only [go_sem, ↓reduceIte, Nat.reduceEqDiff, Nat.reduceAdd, Nat.reduceMul, Nat.reduceSub, Int.reduceToNat, Nat.reduceBEq, List.size_toArray, List.length_cons, List.length_nil, Bool.false_and, Bool.true_and, Bool.or_false, Bool.false_or, Bool.and_false, Bool.and_true, s7], by simp (disch := first | (simp only [go_sem, Bool.and_self, eq_self]; done) | omega | (simp only [List.length_cons, List.length_nil]; omega)) only [go_sem, ↓reduceIte, Nat.reduceEqDiff, Nat.reduceAdd, Nat.reduceMul, Nat.reduceSub, Int.reduceToNat, Nat.reduceBEq, List.size_toArray, List.length_cons, List.length_nil, Bool.false_and, Bool.true_and, Bool.or_false, Bool.false_or, Bool.and_false, Bool.and_true, s1], by simp (disch := first | (simp only [go_sem, Bool.and_self, eq_self]; done) | omega | (simp only [List.length_cons, List.length_nil]; omega)) only [go_sem, ↓reduceIte, Nat.reduceEqDiff, Nat.reduceAdd, Nat.reduceMul, Nat.reduceSub, Int.reduceToNat, Nat.reduceBEq, List.size_toArray, List.length_cons, List.length_nil, Bool.false_and, Bool.true_and, Bool.or_false, Bool.false_or, Bool.and_false, Bool.and_true, s2], by simp (disch := first | (simp only [go_sem, Bool.and_self, eq_self]; done) | omega | (simp only [List.length_cons, List.length_nil]; omega)) only [go_sem, ↓reduceIte, Nat.reduceEqDiff, Nat.reduceAdd, Nat.reduceMul, Nat.reduceSub, Int.reduceToNat, Nat.reduceBEq, List.size_toArray, List.length_cons, List.length_nil, Bool.false_and, Bool.true_and, Bool.or_false, Bool.false_or, Bool.and_false, Bool.and_true, s3], hnx, b0, fun j hj => by
      rcases Nat.lt_or_ge j i with h | h
      · exact hg j h
      · rw [show j = i by omega]
        exact ⟨he, fun d => by rw [hiff.2 d] at hb; cases hb⟩⟩

/-! ### Active -/
noncomputable def opB (p : List (List Int)) (s : List Int) (u v w : Int) : Bool := if hasB (nth p v.toNat) u && hasB (nth p v.toNat) w then lowB p s v.toNat else !hasB s v
noncomputable def actB (p : List (List Int)) (s l : List Int) : Bool := (List.range (l.length - 2)).all fun i => opB p s (nth l i) (nth l (i + 1)) (nth l (i + 2))
theorem f29_con (p t : List (List Int)) (N : Net p t) (l s : List Int) (hl : l.length + 2 ≤ maxLen) (hsl : s.length ≤ maxLen) (hd : diffB p.length l = true) (hs : diffB p.length s = true) : Con Try.prog cfg 29 [.agg [LLI p, LLI t], LI l, LI s] (.bool (actB p s l)) := by
  have ml : maxLen = 9223372036854775807 := by decide
  have hn1 := N.n1
  refine Con_intro Try.func29 rfl ok29 (Nat.le_of_ble_eq_true rfl) rfl ?_
  simp only [Try.f29, Option.getD_some, initSt3]
  simp (disch := first | (simp only [go_sem, Bool.and_self, eq_self]; done) | omega | (simp only [List.length_cons, List.length_nil]; omega)) only [go_sem, ↓reduceIte, Nat.reduceEqDiff, Nat.reduceAdd, Nat.reduceMul, Nat.reduceSub, Int.reduceToNat, Nat.reduceBEq, List.size_toArray, List.length_cons, List.length_nil, Bool.false_and, Bool.true_and, Bool.or_false, Bool.false_or, Bool.and_false, Bool.and_true]
  refine WP_for1 7 l.length (fun i st h => st 1 = LI l ∧ st 2 = LI s ∧ st 3 = .ptr 0 0 ∧ 1 ≤ h.nx ∧ h.bl 0 = some (.cells false false [LLI p, LLI t]) ∧ ∀ j, j < i → j + 2 < l.length → opB p s (nth l j) (nth l (j + 1)) (nth l (j + 2)) = true) (by simp (disch := first | (simp only [go_sem, Bool.and_self, eq_self]; done) | omega | (simp only [List.length_cons, List.length_nil]; omega)) only [go_sem, ↓reduceIte, Nat.reduceEqDiff, Nat.reduceAdd, Nat.reduceMul, Nat.reduceSub, Int.reduceToNat, Nat.reduceBEq, List.size_toArray, List.length_cons, List.length_nil, Bool.false_and, Bool.true_and, Bool.or_false, Bool.false_or, Bool.and_false, Bool.and_true]) ⟨by simp (disch := first | (simp only [go_sem, Bool.and_self, eq_self]; done) | omega | (simp only [List.length_cons, List.length_nil]; omega)) only [go_sem, ↓reduceIte, Nat.reduceEqDiff, Nat.reduceAdd, Nat.reduceMul, Nat.reduceSub, Int.reduceToNat, Nat.reduceBEq, List.size_toArray, List.length_cons, List.length_nil, Bool.false_and, Bool.true_and, Bool.or_false, Bool.false_or, Bool.and_false, Bool.and_true], by simp (disch := first | (simp only [go_sem, Bool.and_self, eq_self]; done) | omega | (simp only [List.length_cons, List.length_nil]; omega)) only [go_sem, ↓reduceIte, Nat.reduceEqDiff, Nat.reduceAdd, Nat.reduceMul, Nat.reduceSub, Int.reduceToNat, Nat.reduceBEq, List.size_toArray, List.length_cons, List.length_nil, Bool.false_and, Bool.true_and, Bool.or_false, Bool.false_or, Bool.and_false, Bool.and_true], by simp (disch := first | (simp only [go_sem, Bool.and_self, eq_self]; done) | omega | (simp only [List.length_cons, List.length_nil]; omega)) only [go_sem, ↓reduceIte, Nat.reduceEqDiff, Nat.reduceAdd, Nat.reduceMul, Nat.reduceSub, Int.reduceToNat, Nat.reduceBEq, List.size_toArray, List.length_cons, List.length_nil, Bool.false_and, Bool.true_and, Bool.or_false, Bool.false_or, Bool.and_false, Bool.and_true], by simp (disch := first | (simp only [go_sem, Bool.and_self, eq_self]; done) | omega | (simp only [List.length_cons, List.length_nil]; omega)) only [go_sem, ↓reduceIte, Nat.reduceEqDiff, Nat.reduceAdd, Nat.reduceMul, Nat.reduceSub, Int.reduceToNat, Nat.reduceBEq, List.size_toArray, List.length_cons, List.length_nil, Bool.false_and, Bool.true_and, Bool.or_false, Bool.false_or, Bool.and_false, Bool.and_true]; decide, by simp (disch := first | (simp only [go_sem, Bool.and_self, eq_self]; done) | omega | (simp only [List.length_cons, List.length_nil]; omega)) only [go_sem, ↓reduceIte, Nat.reduceEqDiff, Nat.reduceAdd, Nat.reduceMul, Nat.reduceSub, Int.reduceToNat, Nat.reduceBEq, List.size_toArray, List.length_cons, List.length_nil, Bool.false_and, Bool.true_and, Bool.or_false, Bool.false_or, Bool.and_false, Bool.and_true], by omega⟩ ?_
  rintro i st h hi s7 ⟨s1, s2, s3, hnx, b0, hg⟩
  by_cases hlt : i + 2 < l.length
  case neg =>
    have hr : actB p s l = true := all_range fun j hj => hg j (by omega) (by omega)
    have hlt' : ¬ (i : Int) + 1 + 1 < l.length := by omega
    simp (disch := first | (simp only [go_sem, Bool.and_self, eq_self]; done) | omega | (simp only [List.length_cons, List.length_nil]; omega)) only [go_sem, ↓reduceIte, Nat.reduceEqDiff, Nat.reduceAdd, Nat.reduceMul, Nat.reduceSub, Int.reduceToNat, Nat.reduceBEq, List.size_toArray, List.length_cons, List.length_nil, Bool.false_and, Bool.true_and, Bool.or_false, Bool.false_or, Bool.and_false, Bool.and_true, s1, s2, s3, s7, hlt', hr]
  have hlt' : (i : Int) + 1 + 1 < l.length := by omega
  have hl1 : (i : Int) + 1 < l.length := by omega
  have l0 : 0 < h.nx := by omega
  have hj0 : ((i : Int) + 1 - 1).toNat = i := by omega
  have hj1 : ((i : Int) + 1).toNat = i + 1 := by omega
  have hj2 : ((i : Int) + 1 + 1).toNat = i + 2 := by omega
  have hz0 : (0 : Int) ≤ (i : Int) + 1 - 1 := by omega
  have hz1 : (0 : Int) ≤ (i : Int) + 1 := by omega
  have hz2 : (0 : Int) ≤ (i : Int) + 1 + 1 := by omega
  have hzl : (i : Int) + 1 - 1 < l.length := by omega
  obtain ⟨v0, v1⟩ := diffB_in hd (show i + 1 < l.length by omega)
  have hvn : (((nth l (i + 1)).toNat : Nat) : Int) = nth l (i + 1) := by omega
  have hpl := N.pl (nth l (i + 1)).toNat (by omega)
  have ku := fun h h' K => k60 (h := h) (h' := h') (K := K) (nth p (nth l (i + 1)).toNat) (nth l i) (by omega)
  have kw := fun h h' K => k60 (h := h) (h' := h') (K := K) (nth p (nth l (i + 1)).toNat) (nth l (i + 2)) (by omega)
  have ks := fun h h' K => k60 (h := h) (h' := h') (K := K) s (nth l (i + 1)) hsl
  have ko := fun h h' K => ConW_num (h := h) (h' := h') (K := K) (f61_con p t N (nth l (i + 1)).toNat (by omega) s hsl fun j hj => diffB_in hs hj) rfl
  rw [hvn] at ko
  have bad : opB p s (nth l i) (nth l (i + 1)) (nth l (i + 2)) = false → actB p s l = false := fun h => not_all_range (i := i) (by omega) h
  have hop : opB p s (nth l i) (nth l (i + 1)) (nth l (i + 2)) = if hasB (nth p (nth l (i + 1)).toNat) (nth l i) && hasB (nth p (nth l (i + 1)).toNat) (nth l (i + 2)) then lowB p s (nth l (i + 1)).toNat else !hasB s (nth l (i + 1)) := rfl
  have fin : opB p s (nth l i) (nth l (i + 1)) (nth l (i + 2)) = true → ∀ j, j < i + 1 → j + 2 < l.length → opB p s (nth l j) (nth l (j + 1)) (nth l (j + 2)) = true := fun h j hj hj2 => by
    rcases Nat.lt_or_ge j i with h3 | h3
    · exact hg j h3 hj2
    · rw [show j = i by omega]; exact h
  have notBoth : (hasB (nth p (nth l (i + 1)).toNat) (nth l i) && hasB (nth p (nth l (i + 1)).toNat) (nth l (i + 2))) = false → opB p s (nth l i) (nth l (i + 1)) (nth l (i + 2)) = !hasB s (nth l (i + 1)) := fun h => by rw [hop, h]; rfl
  cases h1 : hasB (nth p (nth l (i + 1)).toNat) (nth l i) with
  | false =>
    have h12 := notBoth (by rw [h1]; rfl)
    cases h3 : hasB s (nth l (i + 1)) with
    | true =>
      have q := bad (by rw [h12, h3]; rfl)
      simp (disch := first | (simp only [go_sem, Bool.and_self, eq_self]; done) | omega | (simp only [List.length_cons, List.length_nil]; omega)) only [go_sem, ↓reduceIte, Nat.reduceEqDiff, Nat.reduceAdd, Nat.reduceMul, Nat.reduceSub, Int.reduceToNat, Nat.reduceBEq, List.size_toArray, List.length_cons, List.length_nil, Bool.false_and, Bool.true_and, Bool.or_false, Bool.false_or, Bool.and_false, Bool.and_true, s1, s2, s3, s7, hlt', hl1, b0, l0, hj0, hj1, hj2, hz0, hz1, hz2, hzl, v0, v1, ku, ks, h1, h3, q]
    | false =>
      simp (disch := first | (simp only [go_sem, Bool.and_self, eq_self]; done) | omega | (simp only [List.length_cons, List.length_nil]; omega)) only [go_sem, ↓reduceIte, Nat.reduceEqDiff, Nat.reduceAdd, Nat.reduceMul, Nat.reduceSub, Int.reduceToNat, Nat.reduceBEq, List.size_toArray, List.length_cons, List.length_nil, Bool.false_and, Bool.true_and, Bool.or_false, Bool.false_or, Bool.and_false, Bool.and_true, s1, s2, s3, s7, hlt', hl1, b0, l0, hj0, hj1, hj2, hz0, hz1, hz2, hzl, v0, v1, ku, ks, h1, h3]
      rw [For1K_normal]
      exact ⟨by omega, by simp (disch := first | (simp only [go_sem, Bool.and_self, eq_self]; done) | omega | (simp only [List.length_cons, List.length_nil]; omega)) only [go_sem, ↓reduceIte, Nat.reduceEqDiff, Nat.reduceAdd, Nat.reduceMul, Nat.reduceSub, Int.reduceToNat, Nat.reduceBEq, List.size_toArray, List.length_cons, List.length_nil, Bool.false_and, Bool.true_and, Bool.or_false, Bool.false_or, Bool.and_false, Bool.and_true, s7], by simp (disch := first | (simp only [go_sem, Bool.and_self, eq_self]; done) | omega | (simp only [List.length_cons, List.length_nil]; omega)) only [go_sem, ↓reduceIte, Nat.reduceEqDiff, Nat.reduceAdd, Nat.reduceMul, Nat.reduceSub, Int.reduceToNat, Nat.reduceBEq, List.size_toArray, List.length_cons, List.length_nil, Bool.false_and, Bool.true_and, Bool.or_false, Bool.false_or, Bool.and_false, Bool.and_true, s1], by simp (disch := first | (simp only [go_sem, Bool.and_self, eq_self]; done) | omega | (simp only [List.length_cons, List.length_nil]; omega)) only [go_sem, ↓reduceIte, Nat.reduceEqDiff, Nat.reduceAdd, Nat.reduceMul, Nat.reduceSub, Int.reduceToNat, Nat.reduceBEq, List.size_toArray, List.length_cons, List.length_nil, Bool.false_and, Bool.true_and, Bool.or_false, Bool.false_or, Bool.and_false, Bool.and_true, s2], by simp (disch := first | (simp only [go_sem, Bool.and_self, eq_self]; done) | omega | (simp only [List.length_cons, List.length_nil]; omega)) only [go_sem, ↓reduceIte, Nat.reduceEqDiff, Nat.reduceAdd, Nat.reduceMul, Nat.reduceSub, Int.reduceToNat, Nat.reduceBEq, List.size_toArray, List.length_cons, List.length_nil, Bool.false_and, Bool.true_and, Bool.or_false, Bool.false_or, Bool.and_false, Bool.and_true, s3], hnx, b0, fin (by rw [h12, h3]; rfl)⟩
  | true =>
  cases h2 : hasB (nth p (nth l (i + 1)).toNat) (nth l (i + 2)) with
  | false =>
    have h12 := notBoth (by rw [h2, Bool.and_false])
    cases h3 : hasB s (nth l (i + 1)) with
    | true =>
      have q := bad (by rw [h12, h3]; rfl)
      simp (disch := first | (simp only [go_sem, Bool.and_self, eq_self]; done) | omega | (simp only [List.length_cons, List.length_nil]; omega)) only [go_sem, ↓reduceIte, Nat.reduceEqDiff, Nat.reduceAdd, Nat.reduceMul, Nat.reduceSub, Int.reduceToNat, Nat.reduceBEq, List.size_toArray, List.length_cons, List.length_nil, Bool.false_and, Bool.true_and, Bool.or_false, Bool.false_or, Bool.and_false, Bool.and_true, s1, s2, s3, s7, hlt', hl1, b0, l0, hj0, hj1, hj2, hz0, hz1, hz2, hzl, v0, v1, ku, kw, ks, h1, h2, h3, q]
    | false =>
      simp (disch := first | (simp only [go_sem, Bool.and_self, eq_self]; done) | omega | (simp only [List.length_cons, List.length_nil]; omega)) only [go_sem, ↓reduceIte, Nat.reduceEqDiff, Nat.reduceAdd, Nat.reduceMul, Nat.reduceSub, Int.reduceToNat, Nat.reduceBEq, List.size_toArray, List.length_cons, List.length_nil, Bool.false_and, Bool.true_and, Bool.or_false, Bool.false_or, Bool.and_false, Bool.and_true, s1, s2, s3, s7, hlt', hl1, b0, l0, hj0, hj1, hj2, hz0, hz1, hz2, hzl, v0, v1, ku, kw, ks, h1, h2, h3]
      rw [For1K_normal]
      exact ⟨by omega, by simp (disch := first | (simp only [go_sem, Bool.and_self, eq_self]; done) | omega | (simp only [List.length_cons, List.length_nil]; omega)) only [go_sem, ↓reduceIte, Nat.reduceEqDiff, Nat.reduceAdd, Nat.reduceMul, Nat.reduceSub, Int.reduceToNat, Nat.reduceBEq, List.size_toArray, List.length_cons, List.length_nil, Bool.false_and, Bool.true_and, Bool.or_false, Bool.false_or, Bool.and_false, Bool.and_true, s7], by simp (disch := first | (simp only [go_sem, Bool.and_self, eq_self]; done) | omega | (simp only [List.length_cons, List.length_nil]; omega)) only [go_sem, ↓reduceIte, Nat.reduceEqDiff, Nat.reduceAdd, Nat.reduceMul, Nat.reduceSub, Int.reduceToNat, Nat.reduceBEq, List.size_toArray, List.length_cons, List.length_nil, Bool.false_and, Bool.true_and, Bool.or_false, Bool.false_or, Bool.and_false, Bool.and_true, s1], by simp (disch := first | (simp only [go_sem, Bool.and_self, eq_self]; done) | omega | (simp only [List.length_cons, List.length_nil]; omega)) only [go_sem, ↓reduceIte, Nat.reduceEqDiff, Nat.reduceAdd, Nat.reduceMul, Nat.reduceSub, Int.reduceToNat, Nat.reduceBEq, List.size_toArray, List.length_cons, List.length_nil, Bool.false_and, Bool.true_and, Bool.or_false, Bool.false_or, Bool.and_false, Bool.and_true, s2], by simp (disch := first | (simp only [go_sem, Bool.and_self, eq_self]; done) | omega | (simp only [List.length_cons, List.length_nil]; omega)) only [go_sem, ↓reduceIte, Nat.reduceEqDiff, Nat.reduceAdd, Nat.reduceMul, Nat.reduceSub, Int.reduceToNat, Nat.reduceBEq, List.size_toArray, List.length_cons, List.length_nil, Bool.false_and, Bool.true_and, Bool.or_false, Bool.false_or, Bool.and_false, Bool.and_true, s3], hnx, b0, fin (by rw [h12, h3]; rfl)⟩
  | true =>
    have h12 : opB p s (nth l i) (nth l (i + 1)) (nth l (i + 2)) = lowB p s (nth l (i + 1)).toNat := by rw [hop, h1, h2]; rfl
    cases h3 : lowB p s (nth l (i + 1)).toNat with
    | false =>
      have q := bad (by rw [h12, h3])
      simp (disch := first | (simp only [go_sem, Bool.and_self, eq_self]; done) | omega | (simp only [List.length_cons, List.length_nil]; omega)) only [go_sem, ↓reduceIte, Nat.reduceEqDiff, Nat.reduceAdd, Nat.reduceMul, Nat.reduceSub, Int.reduceToNat, Nat.reduceBEq, List.size_toArray, List.length_cons, List.length_nil, Bool.false_and, Bool.true_and, Bool.or_false, Bool.false_or, Bool.and_false, Bool.and_true, s1, s2, s3, s7, hlt', hl1, b0, l0, hj0, hj1, hj2, hz0, hz1, hz2, hzl, v0, v1, ku, kw, ko, h1, h2, h3, q]
    | true =>
      simp (disch := first | (simp only [go_sem, Bool.and_self, eq_self]; done) | omega | (simp only [List.length_cons, List.length_nil]; omega)) only [go_sem, ↓reduceIte, Nat.reduceEqDiff, Nat.reduceAdd, Nat.reduceMul, Nat.reduceSub, Int.reduceToNat, Nat.reduceBEq, List.size_toArray, List.length_cons, List.length_nil, Bool.false_and, Bool.true_and, Bool.or_false, Bool.false_or, Bool.and_false, Bool.and_true, s1, s2, s3, s7, hlt', hl1, b0, l0, hj0, hj1, hj2, hz0, hz1, hz2, hzl, v0, v1, ku, kw, ko, h1, h2, h3]
      rw [For1K_normal]
      exact ⟨by omega, by simp (disch := first | (simp only [go_sem, Bool.and_self, eq_self]; done) | omega | (simp only [List.length_cons, List.length_nil]; omega)) only [go_sem, ↓reduceIte, Nat.reduceEqDiff, Nat.reduceAdd, Nat.reduceMul, Nat.reduceSub, Int.reduceToNat, Nat.reduceBEq, List.size_toArray, List.length_cons, List.length_nil, Bool.false_and, Bool.true_and, Bool.or_false, Bool.false_or, Bool.and_false, Bool.and_true, s7], by simp (disch := first | (simp only [go_sem, Bool.and_self, eq_self]; done) | omega | (simp only [List.length_cons, List.length_nil]; omega)) only [go_sem, ↓reduceIte, Nat.reduceEqDiff, Nat.reduceAdd, Nat.reduceMul, Nat.reduceSub, Int.reduceToNat, Nat.reduceBEq, List.size_toArray, List.length_cons, List.length_nil, Bool.false_and, Bool.true_and, Bool.or_false, Bool.false_or, Bool.and_false, Bool.and_true, s1], by simp (disch := first | (simp only [go_sem, Bool.and_self, eq_self]; done) | omega | (simp only [List.length_cons, List.length_nil]; omega)) only [go_sem, ↓reduceIte, Nat.reduceEqDiff, Nat.reduceAdd, Nat.reduceMul, Nat.reduceSub, Int.reduceToNat, Nat.reduceBEq, List.size_toArray, List.length_cons, List.length_nil, Bool.false_and, Bool.true_and, Bool.or_false, Bool.false_or, Bool.and_false, Bool.and_true, s2], by simp (disch := first | (simp only [go_sem, Bool.and_self, eq_self]; done) | omega | (simp only [List.length_cons, List.length_nil]; omega)) only [go_sem, ↓reduceIte, Nat.reduceEqDiff, Nat.reduceAdd, Nat.reduceMul, Nat.reduceSub, Int.reduceToNat, Nat.reduceBEq, List.size_toArray, List.length_cons, List.length_nil, Bool.false_and, Bool.true_and, Bool.or_false, Bool.false_or, Bool.and_false, Bool.and_true, s3], hnx, b0, fin (by rw [h12, h3])⟩

end Go.Proofs.Ytpkakapbepkfdaa

set_option linter.unusedVariables false
set_option linter.unusedSimpArgs false
set_option maxRecDepth 10000
namespace Go.Proofs.Ytpkakapbepkfdaa
open Go Go.Am

section
variable {c : Cfg} {h : Hp} {K : AV → Hp → Prop} {ops : Array Oper} {lim : Option Nat} {st : St}
@[go_sem ↓ high] theorem W_b99z : StepW Try.prog c ops lim (.build 99 #[]) st h K = K (.agg [.nil, .nil, I 0, .nilmp, .nilmp]) h := by
  rw [W_build, show buildB Try.prog (Try.prog.underlying 99) (izero Try.prog 99) ((#[] : Array (Nat × Operand)).toList.map fun p => (p.1, ev st p.2)) = some (.agg [.nil, .nil, I 0, .nilmp, .nilmp]) by kernel_rfl]
  exact getW_some _
noncomputable def mk99 (x y z : AV) : Option AV := buildB Try.prog (Try.prog.underlying 99) (izero Try.prog 99) [(0, x), (1, y), (2, z)]
@[go_sem ↓ high] theorem W_b99 (a b d : Operand) : StepW Try.prog c ops lim (.build 99 #[(0, a), (1, b), (2, d)]) st h K = getW (mk99 (ev st a) (ev st b) (ev st d)) h K := by
  rw [W_build]; rfl
@[go_sem] theorem mk99_mp (p t : List (List Int)) (n : Int) (a b : Nat) : mk99 (.agg [LLI p, LLI t, I n]) (.mp a) (.mp b) = some (.agg [LLI p, LLI t, I n, .mp a, .mp b]) := by kernel_rfl
end
variable {h h' : Hp} {K : AV → Hp → Prop}

def entB (ks : List Int) : List (Int × AV) := ks.map fun k => (k, .bool true)
theorem findK_B (ks : List Int) (n : Int) : findK n (entB ks) = if n ∈ ks then some (.bool true) else none := by
  induction ks with
  | nil => rfl
  | cons k ks ih =>
    simp only [entB, List.map_cons, findK] at ih ⊢
    by_cases h : n = k
    · simp [h]
    · rw [if_neg h, ih]; simp [h]
theorem putK_B (ks : List Int) (n : Int) : putK n (.bool true) (entB ks) = entB (if n ∈ ks then ks else ks ++ [n]) := by
  induction ks with
  | nil => rfl
  | cons k ks ih =>
    simp only [entB, List.map_cons, putK] at ih ⊢
    by_cases h : n = k
    · subst h; simp
    · rw [if_neg h, ih]
      by_cases h2 : n ∈ ks
      · simp [h2]
      · simp [h, h2]
theorem look_B (id : Nat) (fz : Bool) (ks : List Int) (n : Int) : lookB (some (.map 3 4)) (some (.int .i64)) (some (.bool false)) (.mp id) (some (.mp fz (entB ks))) true (I n) false = some (.bool (hasB ks n)) := by
  rw [lookB_one _ _ _ _ _ _ _ _ _ rfl, findK_B]
  by_cases h : n ∈ ks <;> simp [h, hasB]
def insK (ks : List Int) (n : Int) : List Int := if n ∈ ks then ks else ks ++ [n]
theorem mem_insK {ks : List Int} {n x : Int} : x ∈ insK ks n ↔ x ∈ ks ∨ x = n := by
  unfold insK
  split
  · rename_i h
    constructor
    · exact .inl
    · rintro (h2 | rfl)
      · exact h2
      · exact h
  · simp
def DownK (c : Nat) (J : Nat → St → Hp → Prop) (m : Nat) (Q : Exit → St → Hp → Prop) : Exit → St → Hp → Prop := fun x st h => match x with | .normal => 0 < m ∧ st c = I ((m : Int) - 1 - 1) ∧ J (m - 1) st h | x => Q x st h
theorem DownK_normal (c : Nat) (J : Nat → St → Hp → Prop) (m : Nat) (Q : Exit → St → Hp → Prop) (st : St) : DownK c J m Q .normal st h = (0 < m ∧ st c = I ((m : Int) - 1 - 1) ∧ J (m - 1) st h) := rfl
@[go_sem ↓] theorem DownK_exit (c : Nat) (J : Nat → St → Hp → Prop) (m j : Nat) (Q : Exit → St → Hp → Prop) (st : St) : DownK c J m Q (.exit j) st h = Q (.exit j) st h := rfl
@[go_sem ↓] theorem DownK_ret (c : Nat) (J : Nat → St → Hp → Prop) (m : Nat) (Q : Exit → St → Hp → Prop) (st : St) : DownK c J m Q .ret st h = Q .ret st h := rfl
theorem WP_down {P : Program} {cfg : Cfg} {st : St} {h : Hp} {Q : Exit → St → Hp → Prop} {b : Code} (c n : Nat) (J : Nat → St → Hp → Prop) (h0 : st c = I ((n : Int) - 1)) (hJ : J n st h)
    (step : ∀ (m : Nat) st h, m ≤ n → st c = I ((m : Int) - 1) → J m st h → WP P cfg b st h (DownK c J m Q)) : WP P cfg (.loop b) st h Q := by
  refine WP_loopK (fun m st h => m ≤ n ∧ st c = I ((m : Int) - 1) ∧ J m st h) n ⟨Nat.le_refl _, h0, hJ⟩ ?_
  rintro m st h ⟨hm, hc, hj⟩
  refine WP_mono (step m st h hm hc hj) fun x s' g hx => ?_
  cases x with
  | normal =>
    obtain ⟨h1, h2, h3⟩ := hx
    exact ⟨m - 1, by omega, by omega, by rw [h2]; congr 1; omega, h3⟩
  | exit j => exact hx
  | _ => exact hx

/-- What 'graph' leaves in memory. -/
structure GrB (p t : List (List Int)) (A : Nat) (ks ls : List Int) (H h : Hp) : Prop where
  nx : h.nx = A + 5
  old : ∀ id, id < A → h.bl id = H.bl id
  b0 : h.bl A = some (.cells false false [LLI p, LLI t, I p.length])
  b1 : h.bl (A + 1) = some (.cells false false [.nil, .nil, I 0, .nilmp, .nilmp])
  b2 : h.bl (A + 2) = some (.mp false (entB ks))
  b3 : h.bl (A + 3) = some (.mp false (entB ls))
  b4 : h.bl (A + 4) = some (.cells false false [LLI p, LLI t, I p.length, .mp (A + 2), .mp (A + 3)])
theorem GrB.put2 {p t : List (List Int)} {A : Nat} {ks ls ks' : List Int} {H h : Hp} (G : GrB p t A ks ls H h) : GrB p t A ks' ls H (h.put (A + 2) (some (.mp false (entB ks')))) :=
  ⟨G.nx, fun id hid => by rw [put_bl, if_neg (by omega)]; exact G.old id hid, by rw [put_bl, if_neg (by omega)]; exact G.b0, by rw [put_bl, if_neg (by omega)]; exact G.b1, by rw [put_bl, if_pos rfl], by rw [put_bl, if_neg (by omega)]; exact G.b3, by rw [put_bl, if_neg (by omega)]; exact G.b4⟩
theorem GrB.put3 {p t : List (List Int)} {A : Nat} {ks ls ls' : List Int} {H h : Hp} (G : GrB p t A ks ls H h) : GrB p t A ks ls' H (h.put (A + 3) (some (.mp false (entB ls')))) :=
  ⟨G.nx, fun id hid => by rw [put_bl, if_neg (by omega)]; exact G.old id hid, by rw [put_bl, if_neg (by omega)]; exact G.b0, by rw [put_bl, if_neg (by omega)]; exact G.b1, by rw [put_bl, if_neg (by omega)]; exact G.b2, by rw [put_bl, if_pos rfl], by rw [put_bl, if_neg (by omega)]; exact G.b4⟩
theorem Low.iff {p : List (List Int)} {s : List Int} {x : Nat} : Low p s x ↔ (x : Int) ∈ s ∨ ∃ c, c < p.length ∧ (x : Int) ∈ nth p c ∧ Low p s c := by
  constructor
  · intro l
    cases l with
    | base h => exact .inl h
    | step hc h l => exact .inr ⟨_, hc, h, l⟩
  · rintro (h | ⟨c, hc, h, l⟩)
    · exact .base h
    · exact .step hc h l

theorem f58_shr (p t : List (List Int)) (N : Net p t) (s : List Int) (hsl : s.length ≤ maxLen) (H : Hp) : ∃ v h', Shr Try.prog cfg 58 [.agg [LLI p, LLI t, I p.length], LI s] H v h' ∧
    (H.nx + 5 = h'.nx ∧ (∀ id, id < H.nx → h'.bl id = H.bl id) ∧
      ((diffB p.length s = true ∧ v = .tup [.agg [LLI p, LLI t, I p.length, .mp (H.nx + 2), .mp (H.nx + 3)], .bool true] ∧ ∃ ls, h'.bl (H.nx + 2) = some (.mp false (entB s)) ∧ h'.bl (H.nx + 3) = some (.mp false (entB ls)) ∧ ∀ x : Nat, x < p.length → hasB ls x = lowB p s x) ∨
       (diffB p.length s = false ∧ v = .tup [.agg [.nil, .nil, I 0, .nilmp, .nilmp], .bool false]))) := by
  have ml : maxLen = 9223372036854775807 := by decide
  have hn1 := N.n1
  have a2 : H.nx + 1 + 1 = H.nx + 2 := rfl
  have a3 : H.nx + 2 + 1 = H.nx + 3 := rfl
  have a4 : H.nx + 3 + 1 = H.nx + 4 := rfl
  have a5 : H.nx + 4 + 1 = H.nx + 5 := rfl
  have n1 : ¬ H.nx = H.nx + 1 := by omega
  have n2 : ¬ H.nx = H.nx + 2 := by omega
  have n3 : ¬ H.nx = H.nx + 3 := by omega
  have n4 : ¬ H.nx = H.nx + 4 := by omega
  have hst : ∀ (h : Hp) (id a b : Nat), storeC h id 0 5 (some (.cells false false [.nil, .nil, I 0, .nilmp, .nilmp])) [LLI p, LLI t, I p.length, .mp a, .mp b] = some (.skp, h.put id (some (.cells false false [LLI p, LLI t, I p.length, .mp a, .mp b]))) := fun h id a b => by simp [storeC, setL, AV.isCell]
  have hst0 : ∀ (h : Hp) (id : Nat), storeC h id 0 5 (some (.cells false false [.nil, .nil, I 0, .nilmp, .nilmp])) [.nil, .nil, I 0, .nilmp, .nilmp] = some (.skp, h.put id (some (.cells false false [.nil, .nil, I 0, .nilmp, .nilmp]))) := fun h id => by simp [storeC, setL, AV.isCell]
  refine Shr_intro Try.func58 rfl ok58 (Nat.le_of_ble_eq_true rfl) ?_
  simp only [Try.f58, Option.getD_some, initSt2]
  simp (disch := first | (simp only [go_sem, Bool.and_self, eq_self]; done) | omega | (simp only [List.length_cons, List.length_nil]; omega)) only [go_sem, ↓reduceIte, Nat.reduceEqDiff, Nat.reduceAdd, Nat.reduceMul, Nat.reduceSub, Int.reduceToNat, Nat.reduceBEq, List.size_toArray, List.length_cons, List.length_nil, Bool.false_and, Bool.true_and, Bool.or_false, Bool.false_or, Bool.and_false, Bool.and_true, n1, n2, n3, n4, a2, a3, a4, a5, hst]
  refine WP_cut (fun st h => st 2 = .ptr H.nx 0 ∧ st 4 = .ptr (H.nx + 1) 0 ∧ st 5 = .bool false ∧ st 6 = .ptr (H.nx + 4) 0 ∧ GrB p t H.nx s [] H h ∧ diffB p.length s = true) ?_ ?_
  · refine WP_for 18 s.length (fun i st h => st 2 = .ptr H.nx 0 ∧ st 4 = .ptr (H.nx + 1) 0 ∧ st 5 = .bool false ∧ st 6 = .ptr (H.nx + 4) 0 ∧ st 16 = LI s ∧ st 17 = I s.length ∧ GrB p t H.nx (s.take i) [] H h ∧ ∀ j, j < i → diffE p.length s j = true) (by simp (disch := first | (simp only [go_sem, Bool.and_self, eq_self]; done) | omega | (simp only [List.length_cons, List.length_nil]; omega)) only [go_sem, ↓reduceIte, Nat.reduceEqDiff, Nat.reduceAdd, Nat.reduceMul, Nat.reduceSub, Int.reduceToNat, Nat.reduceBEq, List.size_toArray, List.length_cons, List.length_nil, Bool.false_and, Bool.true_and, Bool.or_false, Bool.false_or, Bool.and_false, Bool.and_true]) ⟨by simp (disch := first | (simp only [go_sem, Bool.and_self, eq_self]; done) | omega | (simp only [List.length_cons, List.length_nil]; omega)) only [go_sem, ↓reduceIte, Nat.reduceEqDiff, Nat.reduceAdd, Nat.reduceMul, Nat.reduceSub, Int.reduceToNat, Nat.reduceBEq, List.size_toArray, List.length_cons, List.length_nil, Bool.false_and, Bool.true_and, Bool.or_false, Bool.false_or, Bool.and_false, Bool.and_true], by simp (disch := first | (simp only [go_sem, Bool.and_self, eq_self]; done) | omega | (simp only [List.length_cons, List.length_nil]; omega)) only [go_sem, ↓reduceIte, Nat.reduceEqDiff, Nat.reduceAdd, Nat.reduceMul, Nat.reduceSub, Int.reduceToNat, Nat.reduceBEq, List.size_toArray, List.length_cons, List.length_nil, Bool.false_and, Bool.true_and, Bool.or_false, Bool.false_or, Bool.and_false, Bool.and_true], by simp (disch := first | (simp only [go_sem, Bool.and_self, eq_self]; done) | omega | (simp only [List.length_cons, List.length_nil]; omega)) only [go_sem, ↓reduceIte, Nat.reduceEqDiff, Nat.reduceAdd, Nat.reduceMul, Nat.reduceSub, Int.reduceToNat, Nat.reduceBEq, List.size_toArray, List.length_cons, List.length_nil, Bool.false_and, Bool.true_and, Bool.or_false, Bool.false_or, Bool.and_false, Bool.and_true], by simp (disch := first | (simp only [go_sem, Bool.and_self, eq_self]; done) | omega | (simp only [List.length_cons, List.length_nil]; omega)) only [go_sem, ↓reduceIte, Nat.reduceEqDiff, Nat.reduceAdd, Nat.reduceMul, Nat.reduceSub, Int.reduceToNat, Nat.reduceBEq, List.size_toArray, List.length_cons, List.length_nil, Bool.false_and, Bool.true_and, Bool.or_false, Bool.false_or, Bool.and_false, Bool.and_true], by simp (disch := first | (simp only [go_sem, Bool.and_self, eq_self]; done) | omega | (simp only [List.length_cons, List.length_nil]; omega)) only [go_sem, ↓reduceIte, Nat.reduceEqDiff, Nat.reduceAdd, Nat.reduceMul, Nat.reduceSub, Int.reduceToNat, Nat.reduceBEq, List.size_toArray, List.length_cons, List.length_nil, Bool.false_and, Bool.true_and, Bool.or_false, Bool.false_or, Bool.and_false, Bool.and_true], by simp (disch := first | (simp only [go_sem, Bool.and_self, eq_self]; done) | omega | (simp only [List.length_cons, List.length_nil]; omega)) only [go_sem, ↓reduceIte, Nat.reduceEqDiff, Nat.reduceAdd, Nat.reduceMul, Nat.reduceSub, Int.reduceToNat, Nat.reduceBEq, List.size_toArray, List.length_cons, List.length_nil, Bool.false_and, Bool.true_and, Bool.or_false, Bool.false_or, Bool.and_false, Bool.and_true], ⟨?_, ?_, ?_, ?_, ?_, ?_, ?_⟩, by omega⟩ ?_
    · simp (disch := first | (simp only [go_sem, Bool.and_self, eq_self]; done) | omega | (simp only [List.length_cons, List.length_nil]; omega)) only [go_sem, ↓reduceIte, Nat.reduceEqDiff, Nat.reduceAdd, Nat.reduceMul, Nat.reduceSub, Int.reduceToNat, Nat.reduceBEq, List.size_toArray, List.length_cons, List.length_nil, Bool.false_and, Bool.true_and, Bool.or_false, Bool.false_or, Bool.and_false, Bool.and_true, a2, a3, a4, a5]
    · intro id hid; simp (disch := first | (simp only [go_sem, Bool.and_self, eq_self]; done) | omega | (simp only [List.length_cons, List.length_nil]; omega)) only [go_sem, ↓reduceIte, Nat.reduceEqDiff, Nat.reduceAdd, Nat.reduceMul, Nat.reduceSub, Int.reduceToNat, Nat.reduceBEq, List.size_toArray, List.length_cons, List.length_nil, Bool.false_and, Bool.true_and, Bool.or_false, Bool.false_or, Bool.and_false, Bool.and_true, a2, a3, a4, a5]; simp [show id ≠ H.nx by omega, show id ≠ H.nx + 1 by omega, show id ≠ H.nx + 2 by omega, show id ≠ H.nx + 3 by omega, show id ≠ H.nx + 4 by omega]
    · simp (disch := first | (simp only [go_sem, Bool.and_self, eq_self]; done) | omega | (simp only [List.length_cons, List.length_nil]; omega)) only [go_sem, ↓reduceIte, Nat.reduceEqDiff, Nat.reduceAdd, Nat.reduceMul, Nat.reduceSub, Int.reduceToNat, Nat.reduceBEq, List.size_toArray, List.length_cons, List.length_nil, Bool.false_and, Bool.true_and, Bool.or_false, Bool.false_or, Bool.and_false, Bool.and_true, a2, a3, a4, a5]; simp
    · simp (disch := first | (simp only [go_sem, Bool.and_self, eq_self]; done) | omega | (simp only [List.length_cons, List.length_nil]; omega)) only [go_sem, ↓reduceIte, Nat.reduceEqDiff, Nat.reduceAdd, Nat.reduceMul, Nat.reduceSub, Int.reduceToNat, Nat.reduceBEq, List.size_toArray, List.length_cons, List.length_nil, Bool.false_and, Bool.true_and, Bool.or_false, Bool.false_or, Bool.and_false, Bool.and_true, a2, a3, a4, a5]; simp
    · simp (disch := first | (simp only [go_sem, Bool.and_self, eq_self]; done) | omega | (simp only [List.length_cons, List.length_nil]; omega)) only [go_sem, ↓reduceIte, Nat.reduceEqDiff, Nat.reduceAdd, Nat.reduceMul, Nat.reduceSub, Int.reduceToNat, Nat.reduceBEq, List.size_toArray, List.length_cons, List.length_nil, Bool.false_and, Bool.true_and, Bool.or_false, Bool.false_or, Bool.and_false, Bool.and_true, a2, a3, a4, a5]; simp; rfl
    · simp (disch := first | (simp only [go_sem, Bool.and_self, eq_self]; done) | omega | (simp only [List.length_cons, List.length_nil]; omega)) only [go_sem, ↓reduceIte, Nat.reduceEqDiff, Nat.reduceAdd, Nat.reduceMul, Nat.reduceSub, Int.reduceToNat, Nat.reduceBEq, List.size_toArray, List.length_cons, List.length_nil, Bool.false_and, Bool.true_and, Bool.or_false, Bool.false_or, Bool.and_false, Bool.and_true, a2, a3, a4, a5]; simp; rfl
    · simp (disch := first | (simp only [go_sem, Bool.and_self, eq_self]; done) | omega | (simp only [List.length_cons, List.length_nil]; omega)) only [go_sem, ↓reduceIte, Nat.reduceEqDiff, Nat.reduceAdd, Nat.reduceMul, Nat.reduceSub, Int.reduceToNat, Nat.reduceBEq, List.size_toArray, List.length_cons, List.length_nil, Bool.false_and, Bool.true_and, Bool.or_false, Bool.false_or, Bool.and_false, Bool.and_true, a2, a3, a4, a5]
    rintro i st h hi s18 ⟨s2, s4, s5, s6, s16, s17, G, hg⟩
    by_cases hlt : i < s.length
    case neg =>
      have hii : i = s.length := by omega
      have hr : diffB p.length s = true := all_range fun j hj => hg j (by omega)
      have hts : s.take i = s := by rw [hii]; exact List.take_length
      rw [hts] at G
      simp (disch := first | (simp only [go_sem, Bool.and_self, eq_self]; done) | omega | (simp only [List.length_cons, List.length_nil]; omega)) only [go_sem, ↓reduceIte, Nat.reduceEqDiff, Nat.reduceAdd, Nat.reduceMul, Nat.reduceSub, Int.reduceToNat, Nat.reduceBEq, List.size_toArray, List.length_cons, List.length_nil, Bool.false_and, Bool.true_and, Bool.or_false, Bool.false_or, Bool.and_false, Bool.and_true, s2, s4, s5, s6, s16, s17, s18, hlt]
      exact ⟨G, hr⟩
    have bad : diffE p.length s i = false → diffB p.length s = false := fun h => not_all_range hlt h
    have b0 := G.b0
    have b1 := G.b1
    have b2 := G.b2
    have b4 := G.b4
    have hnx := G.nx
    have hlk := look_B (H.nx + 2) false (s.take i) (nth s i)
    cases h1 : inB (nth s i) 0 (p.length - 1) with
    | false =>
      have q := bad (by rw [diffE_inB, h1]; rfl)
      simp (disch := first | (simp only [go_sem, Bool.and_self, eq_self]; done) | omega | (simp only [List.length_cons, List.length_nil]; omega)) only [go_sem, ↓reduceIte, Nat.reduceEqDiff, Nat.reduceAdd, Nat.reduceMul, Nat.reduceSub, Int.reduceToNat, Nat.reduceBEq, List.size_toArray, List.length_cons, List.length_nil, Bool.false_and, Bool.true_and, Bool.or_false, Bool.false_or, Bool.and_false, Bool.and_true, s2, s4, s5, s6, s16, s17, s18, hlt, b0, b1, h1, hst0]
      exact ⟨by rw [hnx], fun id hid => by rw [if_neg (by omega)]; exact G.old id hid, .inr q⟩
    | true =>
    cases h3 : hasB (s.take i) (nth s i) with
    | true =>
      have q := bad (by rw [diffE_inB, h1, h3]; rfl)
      rw [h3] at hlk
      simp (disch := first | (simp only [go_sem, Bool.and_self, eq_self]; done) | omega | (simp only [List.length_cons, List.length_nil]; omega)) only [go_sem, ↓reduceIte, Nat.reduceEqDiff, Nat.reduceAdd, Nat.reduceMul, Nat.reduceSub, Int.reduceToNat, Nat.reduceBEq, List.size_toArray, List.length_cons, List.length_nil, Bool.false_and, Bool.true_and, Bool.or_false, Bool.false_or, Bool.and_false, Bool.and_true, s2, s4, s5, s6, s16, s17, s18, hlt, b0, b1, b2, b4, h1, hlk, hst0]
      exact ⟨by rw [hnx], fun id hid => by rw [if_neg (by omega)]; exact G.old id hid, .inr q⟩
    | false =>
    have q : diffE p.length s i = true := by rw [diffE_inB, h1, h3]; rfl
    rw [h3] at hlk
    have hpk : putK (nth s i) (.bool true) (entB (s.take i)) = entB (s.take (i + 1)) := by
      rw [putK_B, if_neg (by simpa [hasB] using h3), List.take_add_one, nth_get hlt]; rfl
    simp (disch := first | (simp only [go_sem, Bool.and_self, eq_self]; done) | omega | (simp only [List.length_cons, List.length_nil]; omega)) only [go_sem, ↓reduceIte, Nat.reduceEqDiff, Nat.reduceAdd, Nat.reduceMul, Nat.reduceSub, Int.reduceToNat, Nat.reduceBEq, List.size_toArray, List.length_cons, List.length_nil, Bool.false_and, Bool.true_and, Bool.or_false, Bool.false_or, Bool.and_false, Bool.and_true, s2, s4, s5, s6, s16, s17, s18, hlt, b0, b2, b4, h1, hlk, hpk]
    rw [ForK_normal]
    exact ⟨hlt, by simp (disch := first | (simp only [go_sem, Bool.and_self, eq_self]; done) | omega | (simp only [List.length_cons, List.length_nil]; omega)) only [go_sem, ↓reduceIte, Nat.reduceEqDiff, Nat.reduceAdd, Nat.reduceMul, Nat.reduceSub, Int.reduceToNat, Nat.reduceBEq, List.size_toArray, List.length_cons, List.length_nil, Bool.false_and, Bool.true_and, Bool.or_false, Bool.false_or, Bool.and_false, Bool.and_true, s18], by simp (disch := first | (simp only [go_sem, Bool.and_self, eq_self]; done) | omega | (simp only [List.length_cons, List.length_nil]; omega)) only [go_sem, ↓reduceIte, Nat.reduceEqDiff, Nat.reduceAdd, Nat.reduceMul, Nat.reduceSub, Int.reduceToNat, Nat.reduceBEq, List.size_toArray, List.length_cons, List.length_nil, Bool.false_and, Bool.true_and, Bool.or_false, Bool.false_or, Bool.and_false, Bool.and_true, s2], by simp (disch := first | (simp only [go_sem, Bool.and_self, eq_self]; done) | omega | (simp only [List.length_cons, List.length_nil]; omega)) only [go_sem, ↓reduceIte, Nat.reduceEqDiff, Nat.reduceAdd, Nat.reduceMul, Nat.reduceSub, Int.reduceToNat, Nat.reduceBEq, List.size_toArray, List.length_cons, List.length_nil, Bool.false_and, Bool.true_and, Bool.or_false, Bool.false_or, Bool.and_false, Bool.and_true, s4], by simp (disch := first | (simp only [go_sem, Bool.and_self, eq_self]; done) | omega | (simp only [List.length_cons, List.length_nil]; omega)) only [go_sem, ↓reduceIte, Nat.reduceEqDiff, Nat.reduceAdd, Nat.reduceMul, Nat.reduceSub, Int.reduceToNat, Nat.reduceBEq, List.size_toArray, List.length_cons, List.length_nil, Bool.false_and, Bool.true_and, Bool.or_false, Bool.false_or, Bool.and_false, Bool.and_true, s5], by simp (disch := first | (simp only [go_sem, Bool.and_self, eq_self]; done) | omega | (simp only [List.length_cons, List.length_nil]; omega)) only [go_sem, ↓reduceIte, Nat.reduceEqDiff, Nat.reduceAdd, Nat.reduceMul, Nat.reduceSub, Int.reduceToNat, Nat.reduceBEq, List.size_toArray, List.length_cons, List.length_nil, Bool.false_and, Bool.true_and, Bool.or_false, Bool.false_or, Bool.and_false, Bool.and_true, s6], by simp (disch := first | (simp only [go_sem, Bool.and_self, eq_self]; done) | omega | (simp only [List.length_cons, List.length_nil]; omega)) only [go_sem, ↓reduceIte, Nat.reduceEqDiff, Nat.reduceAdd, Nat.reduceMul, Nat.reduceSub, Int.reduceToNat, Nat.reduceBEq, List.size_toArray, List.length_cons, List.length_nil, Bool.false_and, Bool.true_and, Bool.or_false, Bool.false_or, Bool.and_false, Bool.and_true, s16], by simp (disch := first | (simp only [go_sem, Bool.and_self, eq_self]; done) | omega | (simp only [List.length_cons, List.length_nil]; omega)) only [go_sem, ↓reduceIte, Nat.reduceEqDiff, Nat.reduceAdd, Nat.reduceMul, Nat.reduceSub, Int.reduceToNat, Nat.reduceBEq, List.size_toArray, List.length_cons, List.length_nil, Bool.false_and, Bool.true_and, Bool.or_false, Bool.false_or, Bool.and_false, Bool.and_true, s17], G.put2, fun j hj => by
      rcases Nat.lt_or_ge j i with h | h
      · exact hg j h
      · rw [show j = i by omega]; exact q⟩
  rintro st h ⟨s2, s4, s5, s6, G, hd⟩
  have b0 := G.b0
  simp (disch := first | (simp only [go_sem, Bool.and_self, eq_self]; done) | omega | (simp only [List.length_cons, List.length_nil]; omega)) only [go_sem, ↓reduceIte, Nat.reduceEqDiff, Nat.reduceAdd, Nat.reduceMul, Nat.reduceSub, Int.reduceToNat, Nat.reduceBEq, List.size_toArray, List.length_cons, List.length_nil, Bool.false_and, Bool.true_and, Bool.or_false, Bool.false_or, Bool.and_false, Bool.and_true, s2, s4, s5, s6, b0]
  refine WP_cut (fun st h => st 2 = .ptr H.nx 0 ∧ st 4 = .ptr (H.nx + 1) 0 ∧ st 5 = .bool false ∧ st 6 = .ptr (H.nx + 4) 0 ∧ ∃ ls, GrB p t H.nx s ls H h ∧ ∀ x : Nat, x < p.length → hasB ls x = lowB p s x) ?_ ?_
  · refine WP_down 9 p.length (fun m st h => st 2 = .ptr H.nx 0 ∧ st 4 = .ptr (H.nx + 1) 0 ∧ st 5 = .bool false ∧ st 6 = .ptr (H.nx + 4) 0 ∧ ∃ ls, GrB p t H.nx s ls H h ∧ ∀ x : Nat, x < p.length → (hasB ls x = true ↔ ((m ≤ x ∧ Low p s x) ∨ ∃ c, m ≤ c ∧ c < p.length ∧ (x : Int) ∈ nth p c ∧ Low p s c))) (by simp (disch := first | (simp only [go_sem, Bool.and_self, eq_self]; done) | omega | (simp only [List.length_cons, List.length_nil]; omega)) only [go_sem, ↓reduceIte, Nat.reduceEqDiff, Nat.reduceAdd, Nat.reduceMul, Nat.reduceSub, Int.reduceToNat, Nat.reduceBEq, List.size_toArray, List.length_cons, List.length_nil, Bool.false_and, Bool.true_and, Bool.or_false, Bool.false_or, Bool.and_false, Bool.and_true]) ⟨by simp (disch := first | (simp only [go_sem, Bool.and_self, eq_self]; done) | omega | (simp only [List.length_cons, List.length_nil]; omega)) only [go_sem, ↓reduceIte, Nat.reduceEqDiff, Nat.reduceAdd, Nat.reduceMul, Nat.reduceSub, Int.reduceToNat, Nat.reduceBEq, List.size_toArray, List.length_cons, List.length_nil, Bool.false_and, Bool.true_and, Bool.or_false, Bool.false_or, Bool.and_false, Bool.and_true, s2, s4, s5, s6], by simp (disch := first | (simp only [go_sem, Bool.and_self, eq_self]; done) | omega | (simp only [List.length_cons, List.length_nil]; omega)) only [go_sem, ↓reduceIte, Nat.reduceEqDiff, Nat.reduceAdd, Nat.reduceMul, Nat.reduceSub, Int.reduceToNat, Nat.reduceBEq, List.size_toArray, List.length_cons, List.length_nil, Bool.false_and, Bool.true_and, Bool.or_false, Bool.false_or, Bool.and_false, Bool.and_true, s2, s4, s5, s6], by simp (disch := first | (simp only [go_sem, Bool.and_self, eq_self]; done) | omega | (simp only [List.length_cons, List.length_nil]; omega)) only [go_sem, ↓reduceIte, Nat.reduceEqDiff, Nat.reduceAdd, Nat.reduceMul, Nat.reduceSub, Int.reduceToNat, Nat.reduceBEq, List.size_toArray, List.length_cons, List.length_nil, Bool.false_and, Bool.true_and, Bool.or_false, Bool.false_or, Bool.and_false, Bool.and_true, s2, s4, s5, s6], by simp (disch := first | (simp only [go_sem, Bool.and_self, eq_self]; done) | omega | (simp only [List.length_cons, List.length_nil]; omega)) only [go_sem, ↓reduceIte, Nat.reduceEqDiff, Nat.reduceAdd, Nat.reduceMul, Nat.reduceSub, Int.reduceToNat, Nat.reduceBEq, List.size_toArray, List.length_cons, List.length_nil, Bool.false_and, Bool.true_and, Bool.or_false, Bool.false_or, Bool.and_false, Bool.and_true, s2, s4, s5, s6], [], G, fun x hx => ⟨fun h => (by cases h), fun h => (by
      rcases h with ⟨h, _⟩ | ⟨c, h1, h2, _⟩ <;> omega)⟩⟩ ?_
    rintro m st h hm s9 ⟨s2, s4, s5, s6, ls, G, hls⟩
    cases m with
    | zero =>
      have hneg : ¬ (0 : Int) ≤ ((0 : Nat) : Int) - 1 := by decide
      simp (disch := first | (simp only [go_sem, Bool.and_self, eq_self]; done) | omega | (simp only [List.length_cons, List.length_nil]; omega)) only [go_sem, ↓reduceIte, Nat.reduceEqDiff, Nat.reduceAdd, Nat.reduceMul, Nat.reduceSub, Int.reduceToNat, Nat.reduceBEq, List.size_toArray, List.length_cons, List.length_nil, Bool.false_and, Bool.true_and, Bool.or_false, Bool.false_or, Bool.and_false, Bool.and_true, s2, s4, s5, s6, s9, hneg]
      refine ⟨ls, G, fun x hx => ?_⟩
      rw [Bool.eq_iff_iff, hls x hx, lowB_iff]
      constructor
      · rintro (⟨_, h⟩ | ⟨c, _, h2, h3, h4⟩)
        · exact h
        · exact .step h2 h3 h4
      · exact fun h => .inl ⟨Nat.zero_le _, h⟩
    | succ i =>
    have s9 : st 9 = I i := by rw [s9]; congr 1; omega
    have hi0 : (0 : Int) ≤ i := by omega
    have hin : i < p.length := by omega
    have b0 := G.b0
    have b2 := G.b2
    have b3 := G.b3
    have b4 := G.b4
    have hlk1 := look_B (H.nx + 2) false s i
    have hlk2 := look_B (H.nx + 3) false ls i
    have hlow : lowB p s i = (hasB s i || hasB ls i) := by
      rw [Bool.eq_iff_iff, Bool.or_eq_true, lowB_iff, hls i hin, Low.iff]
      constructor
      · rintro (h | ⟨c, h1, h2, h3⟩)
        · exact .inl (by simpa [hasB] using h)
        · have := mem_par N h1 h2
          exact .inr (.inr ⟨c, by omega, h1, h2, h3⟩)
      · rintro (h | ⟨h, _⟩ | ⟨c, _, h2, h3, h4⟩)
        · exact .inl (by simpa [hasB] using h)
        · omega
        · exact .inr ⟨c, h2, h3, h4⟩
    cases hl : lowB p s i with
    | false =>
      rw [hl] at hlow
      have e1 : hasB s i = false := by
        cases h : hasB s i with
        | false => rfl
        | true => rw [h] at hlow; cases hlow
      have e2 : hasB ls i = false := by
        cases h : hasB ls i with
        | false => rfl
        | true => rw [h, Bool.or_true] at hlow; cases hlow
      rw [e1] at hlk1
      rw [e2] at hlk2
      simp (disch := first | (simp only [go_sem, Bool.and_self, eq_self]; done) | omega | (simp only [List.length_cons, List.length_nil]; omega)) only [go_sem, ↓reduceIte, Nat.reduceEqDiff, Nat.reduceAdd, Nat.reduceMul, Nat.reduceSub, Int.reduceToNat, Nat.reduceBEq, List.size_toArray, List.length_cons, List.length_nil, Bool.false_and, Bool.true_and, Bool.or_false, Bool.false_or, Bool.and_false, Bool.and_true, s2, s4, s5, s6, s9, hi0, b2, b3, b4, hlk1, hlk2]
      rw [DownK_normal]
      refine ⟨by omega, by simp (disch := first | (simp only [go_sem, Bool.and_self, eq_self]; done) | omega | (simp only [List.length_cons, List.length_nil]; omega)) only [go_sem, ↓reduceIte, Nat.reduceEqDiff, Nat.reduceAdd, Nat.reduceMul, Nat.reduceSub, Int.reduceToNat, Nat.reduceBEq, List.size_toArray, List.length_cons, List.length_nil, Bool.false_and, Bool.true_and, Bool.or_false, Bool.false_or, Bool.and_false, Bool.and_true, s9]; congr 1; omega, by simp (disch := first | (simp only [go_sem, Bool.and_self, eq_self]; done) | omega | (simp only [List.length_cons, List.length_nil]; omega)) only [go_sem, ↓reduceIte, Nat.reduceEqDiff, Nat.reduceAdd, Nat.reduceMul, Nat.reduceSub, Int.reduceToNat, Nat.reduceBEq, List.size_toArray, List.length_cons, List.length_nil, Bool.false_and, Bool.true_and, Bool.or_false, Bool.false_or, Bool.and_false, Bool.and_true, s2], by simp (disch := first | (simp only [go_sem, Bool.and_self, eq_self]; done) | omega | (simp only [List.length_cons, List.length_nil]; omega)) only [go_sem, ↓reduceIte, Nat.reduceEqDiff, Nat.reduceAdd, Nat.reduceMul, Nat.reduceSub, Int.reduceToNat, Nat.reduceBEq, List.size_toArray, List.length_cons, List.length_nil, Bool.false_and, Bool.true_and, Bool.or_false, Bool.false_or, Bool.and_false, Bool.and_true, s4], by simp (disch := first | (simp only [go_sem, Bool.and_self, eq_self]; done) | omega | (simp only [List.length_cons, List.length_nil]; omega)) only [go_sem, ↓reduceIte, Nat.reduceEqDiff, Nat.reduceAdd, Nat.reduceMul, Nat.reduceSub, Int.reduceToNat, Nat.reduceBEq, List.size_toArray, List.length_cons, List.length_nil, Bool.false_and, Bool.true_and, Bool.or_false, Bool.false_or, Bool.and_false, Bool.and_true, s5], by simp (disch := first | (simp only [go_sem, Bool.and_self, eq_self]; done) | omega | (simp only [List.length_cons, List.length_nil]; omega)) only [go_sem, ↓reduceIte, Nat.reduceEqDiff, Nat.reduceAdd, Nat.reduceMul, Nat.reduceSub, Int.reduceToNat, Nat.reduceBEq, List.size_toArray, List.length_cons, List.length_nil, Bool.false_and, Bool.true_and, Bool.or_false, Bool.false_or, Bool.and_false, Bool.and_true, s6], ls, G, fun x hx => ?_⟩
      have hnl : ¬ Low p s i := fun h => by rw [lowB_iff.2 h] at hl; cases hl
      rw [hls x hx]
      simp only [Nat.add_sub_cancel]
      constructor
      · rintro (⟨h1, h2⟩ | ⟨c, h1, h2⟩)
        · exact .inl ⟨by omega, h2⟩
        · exact .inr ⟨c, by omega, h2⟩
      · rintro (⟨h1, h2⟩ | ⟨c, h1, h2, h3, h4⟩)
        · rcases Nat.lt_or_ge i x with h | h
          · exact .inl ⟨h, h2⟩
          · have : x = i := by omega
            subst this; exact absurd h2 hnl
        · rcases Nat.lt_or_ge i c with h | h
          · exact .inr ⟨c, h, h2, h3, h4⟩
          · have : c = i := by omega
            subst this; exact absurd h4 hnl
    | true =>
      have hli := lowB_iff.1 hl
      have hpk := putK_B ls i
      have G1 : GrB p t H.nx s (insK ls i) H (h.put (H.nx + 3) (some (.mp false (entB (insK ls i))))) := G.put3
      have hpk' : putK (i : Int) (.bool true) (entB ls) = entB (insK ls i) := hpk
      have hpl3 := N.pl i hin
      rw [hl] at hlow
      cases e1 : hasB s i with
      | true =>
        rw [e1] at hlk1
        simp (disch := first | (simp only [go_sem, Bool.and_self, eq_self]; done) | omega | (simp only [List.length_cons, List.length_nil]; omega)) only [go_sem, ↓reduceIte, Nat.reduceEqDiff, Nat.reduceAdd, Nat.reduceMul, Nat.reduceSub, Int.reduceToNat, Nat.reduceBEq, List.size_toArray, List.length_cons, List.length_nil, Bool.false_and, Bool.true_and, Bool.or_false, Bool.false_or, Bool.and_false, Bool.and_true, s2, s4, s5, s6, s9, hi0, b0, b2, b3, b4, hlk1, hpk', hin, n3]
        refine WP_cut (fun st h => st 2 = .ptr H.nx 0 ∧ st 4 = .ptr (H.nx + 1) 0 ∧ st 5 = .bool false ∧ st 6 = .ptr (H.nx + 4) 0 ∧ st 9 = I i ∧ ∃ ls', GrB p t H.nx s ls' H h ∧ ∀ k, k ∈ ls' ↔ k ∈ ls ∨ k = i ∨ k ∈ nth p i) ?_ ?_
        · refine WP_for 66 (nth p i).length (fun j st h => st 2 = .ptr H.nx 0 ∧ st 4 = .ptr (H.nx + 1) 0 ∧ st 5 = .bool false ∧ st 6 = .ptr (H.nx + 4) 0 ∧ st 9 = I i ∧ st 64 = LI (nth p i) ∧ st 65 = I (nth p i).length ∧ ∃ ls', GrB p t H.nx s ls' H h ∧ ∀ k, k ∈ ls' ↔ k ∈ ls ∨ k = i ∨ ∃ j', j' < j ∧ nth (nth p i) j' = k) (by simp (disch := first | (simp only [go_sem, Bool.and_self, eq_self]; done) | omega | (simp only [List.length_cons, List.length_nil]; omega)) only [go_sem, ↓reduceIte, Nat.reduceEqDiff, Nat.reduceAdd, Nat.reduceMul, Nat.reduceSub, Int.reduceToNat, Nat.reduceBEq, List.size_toArray, List.length_cons, List.length_nil, Bool.false_and, Bool.true_and, Bool.or_false, Bool.false_or, Bool.and_false, Bool.and_true]) ⟨by simp (disch := first | (simp only [go_sem, Bool.and_self, eq_self]; done) | omega | (simp only [List.length_cons, List.length_nil]; omega)) only [go_sem, ↓reduceIte, Nat.reduceEqDiff, Nat.reduceAdd, Nat.reduceMul, Nat.reduceSub, Int.reduceToNat, Nat.reduceBEq, List.size_toArray, List.length_cons, List.length_nil, Bool.false_and, Bool.true_and, Bool.or_false, Bool.false_or, Bool.and_false, Bool.and_true, s2, s4, s5, s6, s9], by simp (disch := first | (simp only [go_sem, Bool.and_self, eq_self]; done) | omega | (simp only [List.length_cons, List.length_nil]; omega)) only [go_sem, ↓reduceIte, Nat.reduceEqDiff, Nat.reduceAdd, Nat.reduceMul, Nat.reduceSub, Int.reduceToNat, Nat.reduceBEq, List.size_toArray, List.length_cons, List.length_nil, Bool.false_and, Bool.true_and, Bool.or_false, Bool.false_or, Bool.and_false, Bool.and_true, s2, s4, s5, s6, s9], by simp (disch := first | (simp only [go_sem, Bool.and_self, eq_self]; done) | omega | (simp only [List.length_cons, List.length_nil]; omega)) only [go_sem, ↓reduceIte, Nat.reduceEqDiff, Nat.reduceAdd, Nat.reduceMul, Nat.reduceSub, Int.reduceToNat, Nat.reduceBEq, List.size_toArray, List.length_cons, List.length_nil, Bool.false_and, Bool.true_and, Bool.or_false, Bool.false_or, Bool.and_false, Bool.and_true, s2, s4, s5, s6, s9], by simp (disch := first | (simp only [go_sem, Bool.and_self, eq_self]; done) | omega | (simp only [List.length_cons, List.length_nil]; omega)) only [go_sem, ↓reduceIte, Nat.reduceEqDiff, Nat.reduceAdd, Nat.reduceMul, Nat.reduceSub, Int.reduceToNat, Nat.reduceBEq, List.size_toArray, List.length_cons, List.length_nil, Bool.false_and, Bool.true_and, Bool.or_false, Bool.false_or, Bool.and_false, Bool.and_true, s2, s4, s5, s6, s9], by simp (disch := first | (simp only [go_sem, Bool.and_self, eq_self]; done) | omega | (simp only [List.length_cons, List.length_nil]; omega)) only [go_sem, ↓reduceIte, Nat.reduceEqDiff, Nat.reduceAdd, Nat.reduceMul, Nat.reduceSub, Int.reduceToNat, Nat.reduceBEq, List.size_toArray, List.length_cons, List.length_nil, Bool.false_and, Bool.true_and, Bool.or_false, Bool.false_or, Bool.and_false, Bool.and_true, s2, s4, s5, s6, s9], by simp (disch := first | (simp only [go_sem, Bool.and_self, eq_self]; done) | omega | (simp only [List.length_cons, List.length_nil]; omega)) only [go_sem, ↓reduceIte, Nat.reduceEqDiff, Nat.reduceAdd, Nat.reduceMul, Nat.reduceSub, Int.reduceToNat, Nat.reduceBEq, List.size_toArray, List.length_cons, List.length_nil, Bool.false_and, Bool.true_and, Bool.or_false, Bool.false_or, Bool.and_false, Bool.and_true, s2, s4, s5, s6, s9], by simp (disch := first | (simp only [go_sem, Bool.and_self, eq_self]; done) | omega | (simp only [List.length_cons, List.length_nil]; omega)) only [go_sem, ↓reduceIte, Nat.reduceEqDiff, Nat.reduceAdd, Nat.reduceMul, Nat.reduceSub, Int.reduceToNat, Nat.reduceBEq, List.size_toArray, List.length_cons, List.length_nil, Bool.false_and, Bool.true_and, Bool.or_false, Bool.false_or, Bool.and_false, Bool.and_true, s2, s4, s5, s6, s9], insK ls i, G1, fun k => by rw [mem_insK]; simp⟩ ?_
          rintro j st h hj s66 ⟨s2, s4, s5, s6, s9, s64, s65, ls', G', hls'⟩
          by_cases hjl : j < (nth p i).length
          case neg =>
            simp (disch := first | (simp only [go_sem, Bool.and_self, eq_self]; done) | omega | (simp only [List.length_cons, List.length_nil]; omega)) only [go_sem, ↓reduceIte, Nat.reduceEqDiff, Nat.reduceAdd, Nat.reduceMul, Nat.reduceSub, Int.reduceToNat, Nat.reduceBEq, List.size_toArray, List.length_cons, List.length_nil, Bool.false_and, Bool.true_and, Bool.or_false, Bool.false_or, Bool.and_false, Bool.and_true, s2, s4, s5, s6, s9, s64, s65, s66, hjl]
            refine ⟨ls', G', fun k => ?_⟩
            rw [hls' k]
            constructor
            · rintro (h | h | ⟨j', h1, rfl⟩)
              · exact .inl h
              · exact .inr (.inl h)
              · exact .inr (.inr (nth_mem (by omega)))
            · rintro (h | h | h)
              · exact .inl h
              · exact .inr (.inl h)
              · obtain ⟨j', hj', rfl⟩ := List.getElem_of_mem h
                exact .inr (.inr ⟨j', by omega, nth_getElem hj'⟩)
          have c3 := G'.b3
          have c4 := G'.b4
          have hpj : putK (nth (nth p i) j) (.bool true) (entB ls') = entB (insK ls' (nth (nth p i) j)) := putK_B _ _
          simp (disch := first | (simp only [go_sem, Bool.and_self, eq_self]; done) | omega | (simp only [List.length_cons, List.length_nil]; omega)) only [go_sem, ↓reduceIte, Nat.reduceEqDiff, Nat.reduceAdd, Nat.reduceMul, Nat.reduceSub, Int.reduceToNat, Nat.reduceBEq, List.size_toArray, List.length_cons, List.length_nil, Bool.false_and, Bool.true_and, Bool.or_false, Bool.false_or, Bool.and_false, Bool.and_true, s2, s4, s5, s6, s9, s64, s65, s66, hjl, c3, c4, hpj]
          rw [ForK_normal]
          refine ⟨hjl, by simp (disch := first | (simp only [go_sem, Bool.and_self, eq_self]; done) | omega | (simp only [List.length_cons, List.length_nil]; omega)) only [go_sem, ↓reduceIte, Nat.reduceEqDiff, Nat.reduceAdd, Nat.reduceMul, Nat.reduceSub, Int.reduceToNat, Nat.reduceBEq, List.size_toArray, List.length_cons, List.length_nil, Bool.false_and, Bool.true_and, Bool.or_false, Bool.false_or, Bool.and_false, Bool.and_true, s66], by simp (disch := first | (simp only [go_sem, Bool.and_self, eq_self]; done) | omega | (simp only [List.length_cons, List.length_nil]; omega)) only [go_sem, ↓reduceIte, Nat.reduceEqDiff, Nat.reduceAdd, Nat.reduceMul, Nat.reduceSub, Int.reduceToNat, Nat.reduceBEq, List.size_toArray, List.length_cons, List.length_nil, Bool.false_and, Bool.true_and, Bool.or_false, Bool.false_or, Bool.and_false, Bool.and_true, s2], by simp (disch := first | (simp only [go_sem, Bool.and_self, eq_self]; done) | omega | (simp only [List.length_cons, List.length_nil]; omega)) only [go_sem, ↓reduceIte, Nat.reduceEqDiff, Nat.reduceAdd, Nat.reduceMul, Nat.reduceSub, Int.reduceToNat, Nat.reduceBEq, List.size_toArray, List.length_cons, List.length_nil, Bool.false_and, Bool.true_and, Bool.or_false, Bool.false_or, Bool.and_false, Bool.and_true, s4], by simp (disch := first | (simp only [go_sem, Bool.and_self, eq_self]; done) | omega | (simp only [List.length_cons, List.length_nil]; omega)) only [go_sem, ↓reduceIte, Nat.reduceEqDiff, Nat.reduceAdd, Nat.reduceMul, Nat.reduceSub, Int.reduceToNat, Nat.reduceBEq, List.size_toArray, List.length_cons, List.length_nil, Bool.false_and, Bool.true_and, Bool.or_false, Bool.false_or, Bool.and_false, Bool.and_true, s5], by simp (disch := first | (simp only [go_sem, Bool.and_self, eq_self]; done) | omega | (simp only [List.length_cons, List.length_nil]; omega)) only [go_sem, ↓reduceIte, Nat.reduceEqDiff, Nat.reduceAdd, Nat.reduceMul, Nat.reduceSub, Int.reduceToNat, Nat.reduceBEq, List.size_toArray, List.length_cons, List.length_nil, Bool.false_and, Bool.true_and, Bool.or_false, Bool.false_or, Bool.and_false, Bool.and_true, s6], by simp (disch := first | (simp only [go_sem, Bool.and_self, eq_self]; done) | omega | (simp only [List.length_cons, List.length_nil]; omega)) only [go_sem, ↓reduceIte, Nat.reduceEqDiff, Nat.reduceAdd, Nat.reduceMul, Nat.reduceSub, Int.reduceToNat, Nat.reduceBEq, List.size_toArray, List.length_cons, List.length_nil, Bool.false_and, Bool.true_and, Bool.or_false, Bool.false_or, Bool.and_false, Bool.and_true, s9], by simp (disch := first | (simp only [go_sem, Bool.and_self, eq_self]; done) | omega | (simp only [List.length_cons, List.length_nil]; omega)) only [go_sem, ↓reduceIte, Nat.reduceEqDiff, Nat.reduceAdd, Nat.reduceMul, Nat.reduceSub, Int.reduceToNat, Nat.reduceBEq, List.size_toArray, List.length_cons, List.length_nil, Bool.false_and, Bool.true_and, Bool.or_false, Bool.false_or, Bool.and_false, Bool.and_true, s64], by simp (disch := first | (simp only [go_sem, Bool.and_self, eq_self]; done) | omega | (simp only [List.length_cons, List.length_nil]; omega)) only [go_sem, ↓reduceIte, Nat.reduceEqDiff, Nat.reduceAdd, Nat.reduceMul, Nat.reduceSub, Int.reduceToNat, Nat.reduceBEq, List.size_toArray, List.length_cons, List.length_nil, Bool.false_and, Bool.true_and, Bool.or_false, Bool.false_or, Bool.and_false, Bool.and_true, s65], insK ls' (nth (nth p i) j), G'.put3, fun k => ?_⟩
          rw [mem_insK, hls' k]
          constructor
          · rintro ((h | h | ⟨j', h1, h2⟩) | rfl)
            · exact .inl h
            · exact .inr (.inl h)
            · exact .inr (.inr ⟨j', by omega, h2⟩)
            · exact .inr (.inr ⟨j, by omega, rfl⟩)
          · rintro (h | h | ⟨j', h1, h2⟩)
            · exact .inl (.inl h)
            · exact .inl (.inr (.inl h))
            · rcases Nat.lt_or_ge j' j with h3 | h3
              · exact .inl (.inr (.inr ⟨j', h3, h2⟩))
              · exact .inr (by rw [← h2, show j' = j by omega])
        · rintro st h ⟨s2, s4, s5, s6, s9, ls', G', hls'⟩
          simp (disch := first | (simp only [go_sem, Bool.and_self, eq_self]; done) | omega | (simp only [List.length_cons, List.length_nil]; omega)) only [go_sem, ↓reduceIte, Nat.reduceEqDiff, Nat.reduceAdd, Nat.reduceMul, Nat.reduceSub, Int.reduceToNat, Nat.reduceBEq, List.size_toArray, List.length_cons, List.length_nil, Bool.false_and, Bool.true_and, Bool.or_false, Bool.false_or, Bool.and_false, Bool.and_true, s2, s4, s5, s6, s9]
          rw [DownK_normal]
          refine ⟨by omega, by simp (disch := first | (simp only [go_sem, Bool.and_self, eq_self]; done) | omega | (simp only [List.length_cons, List.length_nil]; omega)) only [go_sem, ↓reduceIte, Nat.reduceEqDiff, Nat.reduceAdd, Nat.reduceMul, Nat.reduceSub, Int.reduceToNat, Nat.reduceBEq, List.size_toArray, List.length_cons, List.length_nil, Bool.false_and, Bool.true_and, Bool.or_false, Bool.false_or, Bool.and_false, Bool.and_true, s9]; congr 1; omega, by simp (disch := first | (simp only [go_sem, Bool.and_self, eq_self]; done) | omega | (simp only [List.length_cons, List.length_nil]; omega)) only [go_sem, ↓reduceIte, Nat.reduceEqDiff, Nat.reduceAdd, Nat.reduceMul, Nat.reduceSub, Int.reduceToNat, Nat.reduceBEq, List.size_toArray, List.length_cons, List.length_nil, Bool.false_and, Bool.true_and, Bool.or_false, Bool.false_or, Bool.and_false, Bool.and_true, s2], by simp (disch := first | (simp only [go_sem, Bool.and_self, eq_self]; done) | omega | (simp only [List.length_cons, List.length_nil]; omega)) only [go_sem, ↓reduceIte, Nat.reduceEqDiff, Nat.reduceAdd, Nat.reduceMul, Nat.reduceSub, Int.reduceToNat, Nat.reduceBEq, List.size_toArray, List.length_cons, List.length_nil, Bool.false_and, Bool.true_and, Bool.or_false, Bool.false_or, Bool.and_false, Bool.and_true, s4], by simp (disch := first | (simp only [go_sem, Bool.and_self, eq_self]; done) | omega | (simp only [List.length_cons, List.length_nil]; omega)) only [go_sem, ↓reduceIte, Nat.reduceEqDiff, Nat.reduceAdd, Nat.reduceMul, Nat.reduceSub, Int.reduceToNat, Nat.reduceBEq, List.size_toArray, List.length_cons, List.length_nil, Bool.false_and, Bool.true_and, Bool.or_false, Bool.false_or, Bool.and_false, Bool.and_true, s5], by simp (disch := first | (simp only [go_sem, Bool.and_self, eq_self]; done) | omega | (simp only [List.length_cons, List.length_nil]; omega)) only [go_sem, ↓reduceIte, Nat.reduceEqDiff, Nat.reduceAdd, Nat.reduceMul, Nat.reduceSub, Int.reduceToNat, Nat.reduceBEq, List.size_toArray, List.length_cons, List.length_nil, Bool.false_and, Bool.true_and, Bool.or_false, Bool.false_or, Bool.and_false, Bool.and_true, s6], ls', G', fun x hx => ?_⟩
          have hm : hasB ls' x = true ↔ hasB ls x = true ∨ x = i ∨ (x : Int) ∈ nth p i := by
            simp only [hasB, decide_eq_true_eq]
            rw [hls' x, Int.ofNat_inj]
          rw [hm, hls x hx]
          simp only [Nat.add_sub_cancel]
          constructor
          · rintro ((⟨h1, h2⟩ | ⟨c, h1, h2⟩) | rfl | h)
            · exact .inl ⟨by omega, h2⟩
            · exact .inr ⟨c, by omega, h2⟩
            · exact .inl ⟨Nat.le_refl _, hli⟩
            · exact .inr ⟨i, Nat.le_refl _, hin, h, hli⟩
          · rintro (⟨h1, h2⟩ | ⟨c, h1, h2, h3, h4⟩)
            · rcases Nat.lt_or_ge i x with h | h
              · exact .inl (.inl ⟨h, h2⟩)
              · exact .inr (.inl (by omega))
            · rcases Nat.lt_or_ge i c with h | h
              · exact .inl (.inr ⟨c, h, h2, h3, h4⟩)
              · have : c = i := by omega
                subst this; exact .inr (.inr h3)
      | false =>
        have e2 : hasB ls i = true := by rw [e1, Bool.false_or] at hlow; exact hlow.symm
        rw [e1] at hlk1
        rw [e2] at hlk2
        simp (disch := first | (simp only [go_sem, Bool.and_self, eq_self]; done) | omega | (simp only [List.length_cons, List.length_nil]; omega)) only [go_sem, ↓reduceIte, Nat.reduceEqDiff, Nat.reduceAdd, Nat.reduceMul, Nat.reduceSub, Int.reduceToNat, Nat.reduceBEq, List.size_toArray, List.length_cons, List.length_nil, Bool.false_and, Bool.true_and, Bool.or_false, Bool.false_or, Bool.and_false, Bool.and_true, s2, s4, s5, s6, s9, hi0, b0, b2, b3, b4, hlk1, hlk2, hpk', hin, n3]
        refine WP_cut (fun st h => st 2 = .ptr H.nx 0 ∧ st 4 = .ptr (H.nx + 1) 0 ∧ st 5 = .bool false ∧ st 6 = .ptr (H.nx + 4) 0 ∧ st 9 = I i ∧ ∃ ls', GrB p t H.nx s ls' H h ∧ ∀ k, k ∈ ls' ↔ k ∈ ls ∨ k = i ∨ k ∈ nth p i) ?_ ?_
        · refine WP_for 66 (nth p i).length (fun j st h => st 2 = .ptr H.nx 0 ∧ st 4 = .ptr (H.nx + 1) 0 ∧ st 5 = .bool false ∧ st 6 = .ptr (H.nx + 4) 0 ∧ st 9 = I i ∧ st 64 = LI (nth p i) ∧ st 65 = I (nth p i).length ∧ ∃ ls', GrB p t H.nx s ls' H h ∧ ∀ k, k ∈ ls' ↔ k ∈ ls ∨ k = i ∨ ∃ j', j' < j ∧ nth (nth p i) j' = k) (by simp (disch := first | (simp only [go_sem, Bool.and_self, eq_self]; done) | omega | (simp only [List.length_cons, List.length_nil]; omega)) only [go_sem, ↓reduceIte, Nat.reduceEqDiff, Nat.reduceAdd, Nat.reduceMul, Nat.reduceSub, Int.reduceToNat, Nat.reduceBEq, List.size_toArray, List.length_cons, List.length_nil, Bool.false_and, Bool.true_and, Bool.or_false, Bool.false_or, Bool.and_false, Bool.and_true]) ⟨by simp (disch := first | (simp only [go_sem, Bool.and_self, eq_self]; done) | omega | (simp only [List.length_cons, List.length_nil]; omega)) only [go_sem, ↓reduceIte, Nat.reduceEqDiff, Nat.reduceAdd, Nat.reduceMul, Nat.reduceSub, Int.reduceToNat, Nat.reduceBEq, List.size_toArray, List.length_cons, List.length_nil, Bool.false_and, Bool.true_and, Bool.or_false, Bool.false_or, Bool.and_false, Bool.and_true, s2, s4, s5, s6, s9], by simp (disch := first | (simp only [go_sem, Bool.and_self, eq_self]; done) | omega | (simp only [List.length_cons, List.length_nil]; omega)) only [go_sem, ↓reduceIte, Nat.reduceEqDiff, Nat.reduceAdd, Nat.reduceMul, Nat.reduceSub, Int.reduceToNat, Nat.reduceBEq, List.size_toArray, List.length_cons, List.length_nil, Bool.false_and, Bool.true_and, Bool.or_false, Bool.false_or, Bool.and_false, Bool.and_true, s2, s4, s5, s6, s9], by simp (disch := first | (simp only [go_sem, Bool.and_self, eq_self]; done) | omega | (simp only [List.length_cons, List.length_nil]; omega)) only [go_sem, ↓reduceIte, Nat.reduceEqDiff, Nat.reduceAdd, Nat.reduceMul, Nat.reduceSub, Int.reduceToNat, Nat.reduceBEq, List.size_toArray, List.length_cons, List.length_nil, Bool.false_and, Bool.true_and, Bool.or_false, Bool.false_or, Bool.and_false, Bool.and_true, s2, s4, s5, s6, s9], by simp (disch := first | (simp only [go_sem, Bool.and_self, eq_self]; done) | omega | (simp only [List.length_cons, List.length_nil]; omega)) only [go_sem, ↓reduceIte, Nat.reduceEqDiff, Nat.reduceAdd, Nat.reduceMul, Nat.reduceSub, Int.reduceToNat, Nat.reduceBEq, List.size_toArray, List.length_cons, List.length_nil, Bool.false_and, Bool.true_and, Bool.or_false, Bool.false_or, Bool.and_false, Bool.and_true, s2, s4, s5, s6, s9], by simp (disch := first | (simp only [go_sem, Bool.and_self, eq_self]; done) | omega | (simp only [List.length_cons, List.length_nil]; omega)) only [go_sem, ↓reduceIte, Nat.reduceEqDiff, Nat.reduceAdd, Nat.reduceMul, Nat.reduceSub, Int.reduceToNat, Nat.reduceBEq, List.size_toArray, List.length_cons, List.length_nil, Bool.false_and, Bool.true_and, Bool.or_false, Bool.false_or, Bool.and_false, Bool.and_true, s2, s4, s5, s6, s9], by simp (disch := first | (simp only [go_sem, Bool.and_self, eq_self]; done) | omega | (simp only [List.length_cons, List.length_nil]; omega)) only [go_sem, ↓reduceIte, Nat.reduceEqDiff, Nat.reduceAdd, Nat.reduceMul, Nat.reduceSub, Int.reduceToNat, Nat.reduceBEq, List.size_toArray, List.length_cons, List.length_nil, Bool.false_and, Bool.true_and, Bool.or_false, Bool.false_or, Bool.and_false, Bool.and_true, s2, s4, s5, s6, s9], by simp (disch := first | (simp only [go_sem, Bool.and_self, eq_self]; done) | omega | (simp only [List.length_cons, List.length_nil]; omega)) only [go_sem, ↓reduceIte, Nat.reduceEqDiff, Nat.reduceAdd, Nat.reduceMul, Nat.reduceSub, Int.reduceToNat, Nat.reduceBEq, List.size_toArray, List.length_cons, List.length_nil, Bool.false_and, Bool.true_and, Bool.or_false, Bool.false_or, Bool.and_false, Bool.and_true, s2, s4, s5, s6, s9], insK ls i, G1, fun k => by rw [mem_insK]; simp⟩ ?_
          rintro j st h hj s66 ⟨s2, s4, s5, s6, s9, s64, s65, ls', G', hls'⟩
          by_cases hjl : j < (nth p i).length
          case neg =>
            simp (disch := first | (simp only [go_sem, Bool.and_self, eq_self]; done) | omega | (simp only [List.length_cons, List.length_nil]; omega)) only [go_sem, ↓reduceIte, Nat.reduceEqDiff, Nat.reduceAdd, Nat.reduceMul, Nat.reduceSub, Int.reduceToNat, Nat.reduceBEq, List.size_toArray, List.length_cons, List.length_nil, Bool.false_and, Bool.true_and, Bool.or_false, Bool.false_or, Bool.and_false, Bool.and_true, s2, s4, s5, s6, s9, s64, s65, s66, hjl]
            refine ⟨ls', G', fun k => ?_⟩
            rw [hls' k]
            constructor
            · rintro (h | h | ⟨j', h1, rfl⟩)
              · exact .inl h
              · exact .inr (.inl h)
              · exact .inr (.inr (nth_mem (by omega)))
            · rintro (h | h | h)
              · exact .inl h
              · exact .inr (.inl h)
              · obtain ⟨j', hj', rfl⟩ := List.getElem_of_mem h
                exact .inr (.inr ⟨j', by omega, nth_getElem hj'⟩)
          have c3 := G'.b3
          have c4 := G'.b4
          have hpj : putK (nth (nth p i) j) (.bool true) (entB ls') = entB (insK ls' (nth (nth p i) j)) := putK_B _ _
          simp (disch := first | (simp only [go_sem, Bool.and_self, eq_self]; done) | omega | (simp only [List.length_cons, List.length_nil]; omega)) only [go_sem, ↓reduceIte, Nat.reduceEqDiff, Nat.reduceAdd, Nat.reduceMul, Nat.reduceSub, Int.reduceToNat, Nat.reduceBEq, List.size_toArray, List.length_cons, List.length_nil, Bool.false_and, Bool.true_and, Bool.or_false, Bool.false_or, Bool.and_false, Bool.and_true, s2, s4, s5, s6, s9, s64, s65, s66, hjl, c3, c4, hpj]
          rw [ForK_normal]
          refine ⟨hjl, by simp (disch := first | (simp only [go_sem, Bool.and_self, eq_self]; done) | omega | (simp only [List.length_cons, List.length_nil]; omega)) only [go_sem, ↓reduceIte, Nat.reduceEqDiff, Nat.reduceAdd, Nat.reduceMul, Nat.reduceSub, Int.reduceToNat, Nat.reduceBEq, List.size_toArray, List.length_cons, List.length_nil, Bool.false_and, Bool.true_and, Bool.or_false, Bool.false_or, Bool.and_false, Bool.and_true, s66], by simp (disch := first | (simp only [go_sem, Bool.and_self, eq_self]; done) | omega | (simp only [List.length_cons, List.length_nil]; omega)) only [go_sem, ↓reduceIte, Nat.reduceEqDiff, Nat.reduceAdd, Nat.reduceMul, Nat.reduceSub, Int.reduceToNat, Nat.reduceBEq, List.size_toArray, List.length_cons, List.length_nil, Bool.false_and, Bool.true_and, Bool.or_false, Bool.false_or, Bool.and_false, Bool.and_true, s2], by simp (disch := first | (simp only [go_sem, Bool.and_self, eq_self]; done) | omega | (simp only [List.length_cons, List.length_nil]; omega)) only [go_sem, ↓reduceIte, Nat.reduceEqDiff, Nat.reduceAdd, Nat.reduceMul, Nat.reduceSub, Int.reduceToNat, Nat.reduceBEq, List.size_toArray, List.length_cons, List.length_nil, Bool.false_and, Bool.true_and, Bool.or_false, Bool.false_or, Bool.and_false, Bool.and_true, s4], by simp (disch := first | (simp only [go_sem, Bool.and_self, eq_self]; done) | omega | (simp only [List.length_cons, List.length_nil]; omega)) only [go_sem, ↓reduceIte, Nat.reduceEqDiff, Nat.reduceAdd, Nat.reduceMul, Nat.reduceSub, Int.reduceToNat, Nat.reduceBEq, List.size_toArray, List.length_cons, List.length_nil, Bool.false_and, Bool.true_and, Bool.or_false, Bool.false_or, Bool.and_false, Bool.and_true, s5], by simp (disch := first | (simp only [go_sem, Bool.and_self, eq_self]; done) | omega | (simp only [List.length_cons, List.length_nil]; omega)) only [go_sem, ↓reduceIte, Nat.reduceEqDiff, Nat.reduceAdd, Nat.reduceMul, Nat.reduceSub, Int.reduceToNat, Nat.reduceBEq, List.size_toArray, List.length_cons, List.length_nil, Bool.false_and, Bool.true_and, Bool.or_false, Bool.false_or, Bool.and_false, Bool.and_true, s6], by simp (disch := first | (simp only [go_sem, Bool.and_self, eq_self]; done) | omega | (simp only [List.length_cons, List.length_nil]; omega)) only [go_sem, ↓reduceIte, Nat.reduceEqDiff, Nat.reduceAdd, Nat.reduceMul, Nat.reduceSub, Int.reduceToNat, Nat.reduceBEq, List.size_toArray, List.length_cons, List.length_nil, Bool.false_and, Bool.true_and, Bool.or_false, Bool.false_or, Bool.and_false, Bool.and_true, s9], by simp (disch := first | (simp only [go_sem, Bool.and_self, eq_self]; done) | omega | (simp only [List.length_cons, List.length_nil]; omega)) only [go_sem, ↓reduceIte, Nat.reduceEqDiff, Nat.reduceAdd, Nat.reduceMul, Nat.reduceSub, Int.reduceToNat, Nat.reduceBEq, List.size_toArray, List.length_cons, List.length_nil, Bool.false_and, Bool.true_and, Bool.or_false, Bool.false_or, Bool.and_false, Bool.and_true, s64], by simp (disch := first | (simp only [go_sem, Bool.and_self, eq_self]; done) | omega | (simp only [List.length_cons, List.length_nil]; omega)) only [go_sem, ↓reduceIte, Nat.reduceEqDiff, Nat.reduceAdd, Nat.reduceMul, Nat.reduceSub, Int.reduceToNat, Nat.reduceBEq, List.size_toArray, List.length_cons, List.length_nil, Bool.false_and, Bool.true_and, Bool.or_false, Bool.false_or, Bool.and_false, Bool.and_true, s65], insK ls' (nth (nth p i) j), G'.put3, fun k => ?_⟩
          rw [mem_insK, hls' k]
          constructor
          · rintro ((h | h | ⟨j', h1, h2⟩) | rfl)
            · exact .inl h
            · exact .inr (.inl h)
            · exact .inr (.inr ⟨j', by omega, h2⟩)
            · exact .inr (.inr ⟨j, by omega, rfl⟩)
          · rintro (h | h | ⟨j', h1, h2⟩)
            · exact .inl (.inl h)
            · exact .inl (.inr (.inl h))
            · rcases Nat.lt_or_ge j' j with h3 | h3
              · exact .inl (.inr (.inr ⟨j', h3, h2⟩))
              · exact .inr (by rw [← h2, show j' = j by omega])
        · rintro st h ⟨s2, s4, s5, s6, s9, ls', G', hls'⟩
          simp (disch := first | (simp only [go_sem, Bool.and_self, eq_self]; done) | omega | (simp only [List.length_cons, List.length_nil]; omega)) only [go_sem, ↓reduceIte, Nat.reduceEqDiff, Nat.reduceAdd, Nat.reduceMul, Nat.reduceSub, Int.reduceToNat, Nat.reduceBEq, List.size_toArray, List.length_cons, List.length_nil, Bool.false_and, Bool.true_and, Bool.or_false, Bool.false_or, Bool.and_false, Bool.and_true, s2, s4, s5, s6, s9]
          rw [DownK_normal]
          refine ⟨by omega, by simp (disch := first | (simp only [go_sem, Bool.and_self, eq_self]; done) | omega | (simp only [List.length_cons, List.length_nil]; omega)) only [go_sem, ↓reduceIte, Nat.reduceEqDiff, Nat.reduceAdd, Nat.reduceMul, Nat.reduceSub, Int.reduceToNat, Nat.reduceBEq, List.size_toArray, List.length_cons, List.length_nil, Bool.false_and, Bool.true_and, Bool.or_false, Bool.false_or, Bool.and_false, Bool.and_true, s9]; congr 1; omega, by simp (disch := first | (simp only [go_sem, Bool.and_self, eq_self]; done) | omega | (simp only [List.length_cons, List.length_nil]; omega)) only [go_sem, ↓reduceIte, Nat.reduceEqDiff, Nat.reduceAdd, Nat.reduceMul, Nat.reduceSub, Int.reduceToNat, Nat.reduceBEq, List.size_toArray, List.length_cons, List.length_nil, Bool.false_and, Bool.true_and, Bool.or_false, Bool.false_or, Bool.and_false, Bool.and_true, s2], by simp (disch := first | (simp only [go_sem, Bool.and_self, eq_self]; done) | omega | (simp only [List.length_cons, List.length_nil]; omega)) only [go_sem, ↓reduceIte, Nat.reduceEqDiff, Nat.reduceAdd, Nat.reduceMul, Nat.reduceSub, Int.reduceToNat, Nat.reduceBEq, List.size_toArray, List.length_cons, List.length_nil, Bool.false_and, Bool.true_and, Bool.or_false, Bool.false_or, Bool.and_false, Bool.and_true, s4], by simp (disch := first | (simp only [go_sem, Bool.and_self, eq_self]; done) | omega | (simp only [List.length_cons, List.length_nil]; omega)) only [go_sem, ↓reduceIte, Nat.reduceEqDiff, Nat.reduceAdd, Nat.reduceMul, Nat.reduceSub, Int.reduceToNat, Nat.reduceBEq, List.size_toArray, List.length_cons, List.length_nil, Bool.false_and, Bool.true_and, Bool.or_false, Bool.false_or, Bool.and_false, Bool.and_true, s5], by simp (disch := first | (simp only [go_sem, Bool.and_self, eq_self]; done) | omega | (simp only [List.length_cons, List.length_nil]; omega)) only [go_sem, ↓reduceIte, Nat.reduceEqDiff, Nat.reduceAdd, Nat.reduceMul, Nat.reduceSub, Int.reduceToNat, Nat.reduceBEq, List.size_toArray, List.length_cons, List.length_nil, Bool.false_and, Bool.true_and, Bool.or_false, Bool.false_or, Bool.and_false, Bool.and_true, s6], ls', G', fun x hx => ?_⟩
          have hm : hasB ls' x = true ↔ hasB ls x = true ∨ x = i ∨ (x : Int) ∈ nth p i := by
            simp only [hasB, decide_eq_true_eq]
            rw [hls' x, Int.ofNat_inj]
          rw [hm, hls x hx]
          simp only [Nat.add_sub_cancel]
          constructor
          · rintro ((⟨h1, h2⟩ | ⟨c, h1, h2⟩) | rfl | h)
            · exact .inl ⟨by omega, h2⟩
            · exact .inr ⟨c, by omega, h2⟩
            · exact .inl ⟨Nat.le_refl _, hli⟩
            · exact .inr ⟨i, Nat.le_refl _, hin, h, hli⟩
          · rintro (⟨h1, h2⟩ | ⟨c, h1, h2, h3, h4⟩)
            · rcases Nat.lt_or_ge i x with h | h
              · exact .inl (.inl ⟨h, h2⟩)
              · exact .inr (.inl (by omega))
            · rcases Nat.lt_or_ge i c with h | h
              · exact .inl (.inr ⟨c, h, h2, h3, h4⟩)
              · have : c = i := by omega
                subst this; exact .inr (.inr h3)
  · rintro st h ⟨s2, s4, s5, s6, ls, G, hls⟩
    have b1 := G.b1
    have b2 := G.b2
    have b3 := G.b3
    have b4 := G.b4
    have hnx := G.nx
    simp (disch := first | (simp only [go_sem, Bool.and_self, eq_self]; done) | omega | (simp only [List.length_cons, List.length_nil]; omega)) only [go_sem, ↓reduceIte, Nat.reduceEqDiff, Nat.reduceAdd, Nat.reduceMul, Nat.reduceSub, Int.reduceToNat, Nat.reduceBEq, List.size_toArray, List.length_cons, List.length_nil, Bool.false_and, Bool.true_and, Bool.or_false, Bool.false_or, Bool.and_false, Bool.and_true, s2, s4, s5, s6, b1, b4, hst]
    exact ⟨by rw [hnx], fun id hid => by rw [if_neg (by omega)]; exact G.old id hid, .inl ⟨hd, ls, by rw [if_neg (by omega)]; exact b2, by rw [if_neg (by omega)]; exact b3, hls⟩⟩

end Go.Proofs.Ytpkakapbepkfdaa

set_option linter.unusedVariables false
set_option linter.unusedSimpArgs false
set_option maxRecDepth 10000
namespace Go.Proofs.Ytpkakapbepkfdaa
open Go Go.Am

variable {h h' : Hp} {K : AV → Hp → Prop}

abbrev mvB (ks : List Int) : AV := .mv ((entB ks).map (·.1)) ((entB ks).map (·.2))
theorem look_mv (ks : List Int) (b : Option Blk) (l : Bool) (n : Int) : lookB (some (.map 3 4)) (some (.int .i64)) (some (.bool false)) (mvB ks) b l (I n) false = some (.bool (hasB ks n)) := by
  rw [lookB_mv _ _ _ _ _ _ _ _ _ rfl, findK_B]
  by_cases h : n ∈ ks <;> simp [h, hasB]
theorem pure_entB (ks : List Int) : AV.pureL ((entB ks).map (·.2)) = true := by
  induction ks with
  | nil => rfl
  | cons k ks ih => simpa [entB, AV.pureL, AV.isPure] using ih
theorem seal_graph (p t : List (List Int)) (n : Int) (a b : Nat) (hab : a ≠ b) (ks ls : List Int) (h : Hp) (ha : h.bl a = some (.mp false (entB ks))) (hb : h.bl b = some (.mp false (entB ls))) :
    sealA h (.agg [LLI p, LLI t, I n, .mp a, .mp b]) = some (.agg [LLI p, LLI t, I n, mvB ks, mvB ls], (h.put a (some (.mp true (entB ks)))).put b (some (.mp true (entB ls)))) := by
  have s1 : ∀ (g : Hp) (q : List (List Int)), sealV g (LLI q) = some (LLI q, g) := fun g q => by
    have := sealA_L (h := g) (f := e1 LI) (sz := 1) q
    exact this
  have s2 : ∀ (g : Hp), sealV g (I n) = some (I n, g) := fun g => rfl
  have s3 : sealV h (.mp a) = some (mvB ks, h.put a (some (.mp true (entB ks)))) := by
    show sealV0 h (.mp a) = _
    simp only [sealV0, AV.isPure, ha, pure_entB]
    simp
  have s4 : sealV (h.put a (some (.mp true (entB ks)))) (.mp b) = some (mvB ls, (h.put a (some (.mp true (entB ks)))).put b (some (.mp true (entB ls)))) := by
    have hb' : (h.put a (some (.mp true (entB ks)))).bl b = some (.mp false (entB ls)) := by rw [put_bl, if_neg (Ne.symm hab)]; exact hb
    show sealV0 _ (.mp b) = _
    simp only [sealV0, AV.isPure, hb', pure_entB]
    simp
  have hp : (AV.agg [LLI p, LLI t, I n, .mp a, .mp b]).isPure = false := by
    simp [AV.isPure, AV.pureL]
  have sc : sealCells h [LLI p, LLI t, I n, .mp a, .mp b] = some ([LLI p, LLI t, I n, mvB ks, mvB ls], (h.put a (some (.mp true (entB ks)))).put b (some (.mp true (entB ls)))) := by
    simp only [sealCells, s1, s2, s3, s4, Option.bind_some, Option.map_some]
  simp only [sealA, hp, sc, Option.map_some]
  rfl

theorem load79 (u : Array Field) (a b c x y : AV) : loadC (some (.struct u)) (some 3) (some ([a, b, c, x, y], 0)) = some (.agg [a, b, c]) := loadC_agg _ 3 rfl _ 0 (by simp)
theorem f69_con (p t : List (List Int)) (N : Net p t) (s ls : List Int) (u v w : Int) (hv : 0 ≤ v ∧ v < p.length) (hls : hasB ls v = lowB p s v.toNat) : Con Try.prog cfg 69 [.agg [LLI p, LLI t, I p.length, mvB s, mvB ls], I u, I v, I w] (.bool (opB p s u v w)) := by
  have hal : ∀ g : Hp, allocB g (some (.agg [LLI p, LLI t, I p.length, mvB s, mvB ls])) = some (.ptr g.nx 0, g.alloc (.cells false false [LLI p, LLI t, I p.length, mvB s, mvB ls])) := fun g => allocB_agg _ rfl
  have k1 := fun h h' K => k78 (h := h) (h' := h') (K := K) p t N u v hv
  have k2 := fun h h' K => k78 (h := h) (h' := h') (K := K) p t N w v hv
  have l1 := fun b l => look_mv s b l v
  have l2 := fun b l => look_mv ls b l v
  rw [hls] at l2
  have hr : opB p s u v w = if hasB (nth p v.toNat) u && hasB (nth p v.toNat) w then lowB p s v.toNat else !hasB s v := rfl
  cases h1 : hasB (nth p v.toNat) u with
  | false =>
    rw [h1] at hr
    refine Con_intro Try.func69 rfl ok69 (Nat.le_of_ble_eq_true rfl) rfl ?_
    simp only [Try.f69, Option.getD_some, initSt4]
    simp (disch := first | (simp only [go_sem, Bool.and_self, eq_self]; done) | omega | (simp only [List.length_cons, List.length_nil]; omega)) only [go_sem, ↓reduceIte, Nat.reduceEqDiff, Nat.reduceAdd, Nat.reduceMul, Nat.reduceSub, Int.reduceToNat, Nat.reduceBEq, List.size_toArray, List.length_cons, List.length_nil, Bool.false_and, Bool.true_and, Bool.or_false, Bool.false_or, Bool.and_false, Bool.and_true, hal, load79, k1, l1, h1, hr, Bool.false_and]
  | true =>
  cases h2 : hasB (nth p v.toNat) w with
  | false =>
    rw [h1, h2] at hr
    refine Con_intro Try.func69 rfl ok69 (Nat.le_of_ble_eq_true rfl) rfl ?_
    simp only [Try.f69, Option.getD_some, initSt4]
    simp (disch := first | (simp only [go_sem, Bool.and_self, eq_self]; done) | omega | (simp only [List.length_cons, List.length_nil]; omega)) only [go_sem, ↓reduceIte, Nat.reduceEqDiff, Nat.reduceAdd, Nat.reduceMul, Nat.reduceSub, Int.reduceToNat, Nat.reduceBEq, List.size_toArray, List.length_cons, List.length_nil, Bool.false_and, Bool.true_and, Bool.or_false, Bool.false_or, Bool.and_false, Bool.and_true, hal, load79, k1, k2, l1, h1, h2, hr]
  | true =>
    rw [h1, h2] at hr
    refine Con_intro Try.func69 rfl ok69 (Nat.le_of_ble_eq_true rfl) rfl ?_
    simp only [Try.f69, Option.getD_some, initSt4]
    simp (disch := first | (simp only [go_sem, Bool.and_self, eq_self]; done) | omega | (simp only [List.length_cons, List.length_nil]; omega)) only [go_sem, ↓reduceIte, Nat.reduceEqDiff, Nat.reduceAdd, Nat.reduceMul, Nat.reduceSub, Int.reduceToNat, Nat.reduceBEq, List.size_toArray, List.length_cons, List.length_nil, Bool.false_and, Bool.true_and, Bool.or_false, Bool.false_or, Bool.and_false, Bool.and_true, hal, load79, k1, k2, l2, h1, h2, hr]

noncomputable def actR (p t : List (List Int)) (l s : List Int) : AV :=
  if netB p t && (diffB p.length s && (tB p l && (decide (2 ≤ l.length) && (!hasB s (nth l 0) && !hasB s (nth l (l.length - 1)))))) then .tup [.bool (actB p s l), I 0] else .tup [.bool false, I 2]
theorem actR_no {p t : List (List Int)} {l s : List Int} (h : (netB p t && (diffB p.length s && (tB p l && (decide (2 ≤ l.length) && (!hasB s (nth l 0) && !hasB s (nth l (l.length - 1))))))) = false) : actR p t l s = .tup [.bool false, I 2] := by
  rw [actR, h]; rfl
theorem f40_con (p t : List (List Int)) (hp : okLL p) (ht : okLL t) (l s : List Int) (hl : l.length + 2 ≤ maxLen) (hsl : s.length ≤ maxLen) : Con Try.prog cfg 40 [.agg [LLI p, LLI t], LI l, LI s] (actR p t l s) := by
  have ml : maxLen = 9223372036854775807 := by decide
  have kn := fun h h' K => k46 (h := h) (h' := h') (K := K) p t hp ht
  have n20 : ¬ (2 : Int) = 0 := by decide
  cases h1 : netB p t with
  | false =>
    have hr := actR_no (p := p) (t := t) (l := l) (s := s) (by rw [h1]; rfl)
    refine Con_intro Try.func40 rfl ok40 (Nat.le_of_ble_eq_true rfl) rfl ?_
    simp only [Try.f40, Option.getD_some, initSt3]
    simp (disch := first | (simp only [go_sem, Bool.and_self, eq_self]; done) | omega | (simp only [List.length_cons, List.length_nil]; omega)) only [go_sem, ↓reduceIte, Nat.reduceEqDiff, Nat.reduceAdd, Nat.reduceMul, Nat.reduceSub, Int.reduceToNat, Nat.reduceBEq, List.size_toArray, List.length_cons, List.length_nil, Bool.false_and, Bool.true_and, Bool.or_false, Bool.false_or, Bool.and_false, Bool.and_true, kn, netR_f h1, n20, hr]
  | true =>
  have N := Net.of h1
  have hn1 := N.n1
  refine Con_intro Try.func40 rfl ok40 (Nat.le_of_ble_eq_true rfl) rfl ?_
  simp only [Try.f40, Option.getD_some, initSt3]
  simp (disch := first | (simp only [go_sem, Bool.and_self, eq_self]; done) | omega | (simp only [List.length_cons, List.length_nil]; omega)) only [go_sem, ↓reduceIte, Nat.reduceEqDiff, Nat.reduceAdd, Nat.reduceMul, Nat.reduceSub, Int.reduceToNat, Nat.reduceBEq, List.size_toArray, List.length_cons, List.length_nil, Bool.false_and, Bool.true_and, Bool.or_false, Bool.false_or, Bool.and_false, Bool.and_true, kn, netR_t h1]
  refine CallW_shrE shr58 (f58_shr p t N s hsl _) ?_
  rintro v hA ⟨nA, fA, cA⟩
  have a1 := fA 1 (by show 1 < 2; omega)
  simp (disch := first | (simp only [go_sem, Bool.and_self, eq_self]; done) | omega | (simp only [List.length_cons, List.length_nil]; omega)) only [go_sem, ↓reduceIte, Nat.reduceEqDiff, Nat.reduceAdd, Nat.reduceMul, Nat.reduceSub, Int.reduceToNat, Nat.reduceBEq, List.size_toArray, List.length_cons, List.length_nil, Bool.false_and, Bool.true_and, Bool.or_false, Bool.false_or, Bool.and_false, Bool.and_true] at a1 nA cA
  have hstE : ∀ (h : Hp) (id : Nat), storeC h id 0 5 (some (.cells false false [.nil, .nil, I 0, .nilmp, .nilmp])) [.nil, .nil, I 0, .nilmp, .nilmp] = some (.skp, h.put id (some (.cells false false [.nil, .nil, I 0, .nilmp, .nilmp]))) := fun h id => by simp [storeC, setL, AV.isCell]
  have hst : ∀ (h : Hp) (id a b : Nat), storeC h id 0 5 (some (.cells false false [.nil, .nil, I 0, .nilmp, .nilmp])) [LLI p, LLI t, I p.length, .mp a, .mp b] = some (.skp, h.put id (some (.cells false false [LLI p, LLI t, I p.length, .mp a, .mp b]))) := fun h id a b => by simp [storeC, setL, AV.isCell]
  rcases cA with ⟨q1, rfl, ls, q3, q4, q5⟩ | ⟨q1, rfl⟩
  case inr =>
    have hr := actR_no (p := p) (t := t) (l := l) (s := s) (by rw [q1, Bool.false_and, Bool.and_false])
    simp (disch := first | (simp only [go_sem, Bool.and_self, eq_self]; done) | omega | (simp only [List.length_cons, List.length_nil]; omega)) only [go_sem, ↓reduceIte, Nat.reduceEqDiff, Nat.reduceAdd, Nat.reduceMul, Nat.reduceSub, Int.reduceToNat, Nat.reduceBEq, List.size_toArray, List.length_cons, List.length_nil, Bool.false_and, Bool.true_and, Bool.or_false, Bool.false_or, Bool.and_false, Bool.and_true, hstE, n20, hr]
  have hx := hA.nx
  have m2 : hA.bl 4 = some (.mp false (entB s)) := q3
  have m3 : hA.bl 5 = some (.mp false (entB ls)) := q4
  have k68 := fun h h' K => ConW_num (h := h) (h' := h') (K := K) (f68_con p t N l (by omega)) rfl
  have u1 : ¬ 1 = hA.nx := by omega
  have u4 : ¬ 4 = hA.nx := by omega
  have u5 : ¬ 5 = hA.nx := by omega
  have v1 : 1 < hA.nx + 1 := by omega
  have v4 : 4 < hA.nx + 1 := by omega
  have v5 : 5 < hA.nx + 1 := by omega
  have v6 : hA.nx < hA.nx + 1 := by omega
  cases htB : tB p l && decide (2 ≤ l.length) with
  | false =>
    have hr := actR_no (p := p) (t := t) (l := l) (s := s) (by
      cases h2 : tB p l with
      | false => simp
      | true => rw [h2, Bool.true_and] at htB; simp [htB])
    simp (disch := first | (simp only [go_sem, Bool.and_self, eq_self]; done) | omega | (simp only [List.length_cons, List.length_nil]; omega)) only [go_sem, ↓reduceIte, Nat.reduceEqDiff, Nat.reduceAdd, Nat.reduceMul, Nat.reduceSub, Int.reduceToNat, Nat.reduceBEq, List.size_toArray, List.length_cons, List.length_nil, Bool.false_and, Bool.true_and, Bool.or_false, Bool.false_or, Bool.and_false, Bool.and_true, a1, hst, k68, htB, u1, u4, u5, v1, v4, v5, v6, n20, hr]
  | true =>
  rw [Bool.and_eq_true, decide_eq_true_eq] at htB
  obtain ⟨ht1, ht2⟩ := htB
  have htB : (tB p l && decide (2 ≤ l.length)) = true := by rw [ht1]; simp [ht2]
  have hd := tB_diff ht1
  have z0 : (0 : Int) < l.length := by omega
  have z0' : 0 < l.length := by omega
  have z1 : (0 : Int) ≤ (l.length : Int) - 1 := by omega
  have z2 : (l.length : Int) - 1 < l.length := by omega
  have z3 : ((l.length : Int) - 1).toNat = l.length - 1 := by omega
  have hlk0 := look_B 4 false s (nth l 0)
  have hlkN := look_B 4 false s (nth l (l.length - 1))
  cases e0 : hasB s (nth l 0) with
  | true =>
    have hr := actR_no (p := p) (t := t) (l := l) (s := s) (by rw [e0]; simp)
    rw [e0] at hlk0
    simp (disch := first | (simp only [go_sem, Bool.and_self, eq_self]; done) | omega | (simp only [List.length_cons, List.length_nil]; omega)) only [go_sem, ↓reduceIte, Nat.reduceEqDiff, Nat.reduceAdd, Nat.reduceMul, Nat.reduceSub, Int.reduceToNat, Nat.reduceBEq, List.size_toArray, List.length_cons, List.length_nil, Bool.false_and, Bool.true_and, Bool.or_false, Bool.false_or, Bool.and_false, Bool.and_true, a1, m2, hst, k68, htB, u1, u4, u5, v1, v4, v5, v6, z0, z0', z1, z2, z3, hlk0, n20, hr]
  | false =>
  cases eN : hasB s (nth l (l.length - 1)) with
  | true =>
    have hr := actR_no (p := p) (t := t) (l := l) (s := s) (by rw [eN]; simp)
    rw [e0] at hlk0
    rw [eN] at hlkN
    simp (disch := first | (simp only [go_sem, Bool.and_self, eq_self]; done) | omega | (simp only [List.length_cons, List.length_nil]; omega)) only [go_sem, ↓reduceIte, Nat.reduceEqDiff, Nat.reduceAdd, Nat.reduceMul, Nat.reduceSub, Int.reduceToNat, Nat.reduceBEq, List.size_toArray, List.length_cons, List.length_nil, Bool.false_and, Bool.true_and, Bool.or_false, Bool.false_or, Bool.and_false, Bool.and_true, a1, m2, hst, k68, htB, u1, u4, u5, v1, v4, v5, v6, z0, z0', z1, z2, z3, hlk0, hlkN, n20, hr]
  | false =>
  have hr : actR p t l s = .tup [.bool (actB p s l), I 0] := by
    have h2 : decide (2 ≤ l.length) = true := by simp [ht2]
    rw [actR, h1, q1, ht1, h2, e0, eN]; rfl
  rw [e0] at hlk0
  rw [eN] at hlkN
  simp (disch := first | (simp only [go_sem, Bool.and_self, eq_self]; done) | omega | (simp only [List.length_cons, List.length_nil]; omega)) only [go_sem, ↓reduceIte, Nat.reduceEqDiff, Nat.reduceAdd, Nat.reduceMul, Nat.reduceSub, Int.reduceToNat, Nat.reduceBEq, List.size_toArray, List.length_cons, List.length_nil, Bool.false_and, Bool.true_and, Bool.or_false, Bool.false_or, Bool.and_false, Bool.and_true, a1, m2, hst, k68, htB, u1, u4, u5, v1, v4, v5, v6, z0, z0', z1, z2, z3, hlk0, hlkN]
  refine WP_for1 12 l.length (fun i st h => st 1 = LI l ∧ st 6 = .bool false ∧ st 7 = I 0 ∧ st 10 = .ptr hA.nx 0 ∧ hA.nx < h.nx ∧ h.bl hA.nx = some (.cells false false [LLI p, LLI t, I p.length, .mp 4, .mp 5]) ∧ h.bl 4 = some (.mp false (entB s)) ∧ h.bl 5 = some (.mp false (entB ls)) ∧ ∀ j, j < i → j + 2 < l.length → opB p s (nth l j) (nth l (j + 1)) (nth l (j + 2)) = true) (by simp (disch := first | (simp only [go_sem, Bool.and_self, eq_self]; done) | omega | (simp only [List.length_cons, List.length_nil]; omega)) only [go_sem, ↓reduceIte, Nat.reduceEqDiff, Nat.reduceAdd, Nat.reduceMul, Nat.reduceSub, Int.reduceToNat, Nat.reduceBEq, List.size_toArray, List.length_cons, List.length_nil, Bool.false_and, Bool.true_and, Bool.or_false, Bool.false_or, Bool.and_false, Bool.and_true]) ⟨by simp (disch := first | (simp only [go_sem, Bool.and_self, eq_self]; done) | omega | (simp only [List.length_cons, List.length_nil]; omega)) only [go_sem, ↓reduceIte, Nat.reduceEqDiff, Nat.reduceAdd, Nat.reduceMul, Nat.reduceSub, Int.reduceToNat, Nat.reduceBEq, List.size_toArray, List.length_cons, List.length_nil, Bool.false_and, Bool.true_and, Bool.or_false, Bool.false_or, Bool.and_false, Bool.and_true], by simp (disch := first | (simp only [go_sem, Bool.and_self, eq_self]; done) | omega | (simp only [List.length_cons, List.length_nil]; omega)) only [go_sem, ↓reduceIte, Nat.reduceEqDiff, Nat.reduceAdd, Nat.reduceMul, Nat.reduceSub, Int.reduceToNat, Nat.reduceBEq, List.size_toArray, List.length_cons, List.length_nil, Bool.false_and, Bool.true_and, Bool.or_false, Bool.false_or, Bool.and_false, Bool.and_true], by simp (disch := first | (simp only [go_sem, Bool.and_self, eq_self]; done) | omega | (simp only [List.length_cons, List.length_nil]; omega)) only [go_sem, ↓reduceIte, Nat.reduceEqDiff, Nat.reduceAdd, Nat.reduceMul, Nat.reduceSub, Int.reduceToNat, Nat.reduceBEq, List.size_toArray, List.length_cons, List.length_nil, Bool.false_and, Bool.true_and, Bool.or_false, Bool.false_or, Bool.and_false, Bool.and_true], by simp (disch := first | (simp only [go_sem, Bool.and_self, eq_self]; done) | omega | (simp only [List.length_cons, List.length_nil]; omega)) only [go_sem, ↓reduceIte, Nat.reduceEqDiff, Nat.reduceAdd, Nat.reduceMul, Nat.reduceSub, Int.reduceToNat, Nat.reduceBEq, List.size_toArray, List.length_cons, List.length_nil, Bool.false_and, Bool.true_and, Bool.or_false, Bool.false_or, Bool.and_false, Bool.and_true], by simp (disch := first | (simp only [go_sem, Bool.and_self, eq_self]; done) | omega | (simp only [List.length_cons, List.length_nil]; omega)) only [go_sem, ↓reduceIte, Nat.reduceEqDiff, Nat.reduceAdd, Nat.reduceMul, Nat.reduceSub, Int.reduceToNat, Nat.reduceBEq, List.size_toArray, List.length_cons, List.length_nil, Bool.false_and, Bool.true_and, Bool.or_false, Bool.false_or, Bool.and_false, Bool.and_true]; omega, by simp (disch := first | (simp only [go_sem, Bool.and_self, eq_self]; done) | omega | (simp only [List.length_cons, List.length_nil]; omega)) only [go_sem, ↓reduceIte, Nat.reduceEqDiff, Nat.reduceAdd, Nat.reduceMul, Nat.reduceSub, Int.reduceToNat, Nat.reduceBEq, List.size_toArray, List.length_cons, List.length_nil, Bool.false_and, Bool.true_and, Bool.or_false, Bool.false_or, Bool.and_false, Bool.and_true], by simp (disch := first | (simp only [go_sem, Bool.and_self, eq_self]; done) | omega | (simp only [List.length_cons, List.length_nil]; omega)) only [go_sem, ↓reduceIte, Nat.reduceEqDiff, Nat.reduceAdd, Nat.reduceMul, Nat.reduceSub, Int.reduceToNat, Nat.reduceBEq, List.size_toArray, List.length_cons, List.length_nil, Bool.false_and, Bool.true_and, Bool.or_false, Bool.false_or, Bool.and_false, Bool.and_true, m2, u4], by simp (disch := first | (simp only [go_sem, Bool.and_self, eq_self]; done) | omega | (simp only [List.length_cons, List.length_nil]; omega)) only [go_sem, ↓reduceIte, Nat.reduceEqDiff, Nat.reduceAdd, Nat.reduceMul, Nat.reduceSub, Int.reduceToNat, Nat.reduceBEq, List.size_toArray, List.length_cons, List.length_nil, Bool.false_and, Bool.true_and, Bool.or_false, Bool.false_or, Bool.and_false, Bool.and_true, m3, u5], by omega⟩ ?_
  rintro i st h hi s12 ⟨s1, s6, s7, s10, hnx, bG, bs, bl, hg⟩
  by_cases hlt : i + 2 < l.length
  case neg =>
    have hra : actB p s l = true := all_range fun j hj => hg j (by omega) (by omega)
    have hlt' : ¬ (i : Int) + 1 + 1 < l.length := by omega
    rw [hra] at hr
    simp (disch := first | (simp only [go_sem, Bool.and_self, eq_self]; done) | omega | (simp only [List.length_cons, List.length_nil]; omega)) only [go_sem, ↓reduceIte, Nat.reduceEqDiff, Nat.reduceAdd, Nat.reduceMul, Nat.reduceSub, Int.reduceToNat, Nat.reduceBEq, List.size_toArray, List.length_cons, List.length_nil, Bool.false_and, Bool.true_and, Bool.or_false, Bool.false_or, Bool.and_false, Bool.and_true, s1, s6, s7, s12, hlt', hr]
  have hlt' : (i : Int) + 1 + 1 < l.length := by omega
  have hl1 : (i : Int) + 1 < l.length := by omega
  have hj0 : ((i : Int) + 1 - 1).toNat = i := by omega
  have hj1 : ((i : Int) + 1).toNat = i + 1 := by omega
  have hj2 : ((i : Int) + 1 + 1).toNat = i + 2 := by omega
  have hz0 : (0 : Int) ≤ (i : Int) + 1 - 1 := by omega
  have hz1 : (0 : Int) ≤ (i : Int) + 1 := by omega
  have hz2 : (0 : Int) ≤ (i : Int) + 1 + 1 := by omega
  have hzl : (i : Int) + 1 - 1 < l.length := by omega
  obtain ⟨v0, v1'⟩ := diffB_in hd (show i + 1 < l.length by omega)
  have hvn : (((nth l (i + 1)).toNat : Nat) : Int) = nth l (i + 1) := by omega
  have hlv := q5 (nth l (i + 1)).toNat (by omega)
  rw [hvn] at hlv
  have k69 := fun h h' K => ConW_num (h := h) (h' := h') (K := K) (f69_con p t N s ls (nth l i) (nth l (i + 1)) (nth l (i + 2)) ⟨v0, v1'⟩ hlv) rfl
  have hse := seal_graph p t p.length 4 5 (by decide) s ls h bs bl
  have hl99 : ∀ u, loadC (some (.struct u)) (some 5) (some ([LLI p, LLI t, I p.length, .mp 4, .mp 5], 0)) = some (.agg [LLI p, LLI t, I p.length, .mp 4, .mp 5]) := fun u => loadC_agg _ 5 rfl _ 0 (by simp)
  cases ho : opB p s (nth l i) (nth l (i + 1)) (nth l (i + 2)) with
  | false =>
    have hra : actB p s l = false := not_all_range (i := i) (by omega) ho
    rw [hra] at hr
    simp (disch := first | (simp only [go_sem, Bool.and_self, eq_self]; done) | omega | (simp only [List.length_cons, List.length_nil]; omega)) only [go_sem, ↓reduceIte, Nat.reduceEqDiff, Nat.reduceAdd, Nat.reduceMul, Nat.reduceSub, Int.reduceToNat, Nat.reduceBEq, List.size_toArray, List.length_cons, List.length_nil, Bool.false_and, Bool.true_and, Bool.or_false, Bool.false_or, Bool.and_false, Bool.and_true, s1, s6, s7, s10, s12, hlt', hl1, bG, hnx, hl99, hse, k69, ho, hj0, hj1, hj2, hz0, hz1, hz2, hzl, hr]
  | true =>
    simp (disch := first | (simp only [go_sem, Bool.and_self, eq_self]; done) | omega | (simp only [List.length_cons, List.length_nil]; omega)) only [go_sem, ↓reduceIte, Nat.reduceEqDiff, Nat.reduceAdd, Nat.reduceMul, Nat.reduceSub, Int.reduceToNat, Nat.reduceBEq, List.size_toArray, List.length_cons, List.length_nil, Bool.false_and, Bool.true_and, Bool.or_false, Bool.false_or, Bool.and_false, Bool.and_true, s1, s6, s7, s10, s12, hlt', hl1, bG, hnx, hl99, hse, k69, ho, hj0, hj1, hj2, hz0, hz1, hz2, hzl]
    rw [For1K_normal]
    refine ⟨by omega, by simp (disch := first | (simp only [go_sem, Bool.and_self, eq_self]; done) | omega | (simp only [List.length_cons, List.length_nil]; omega)) only [go_sem, ↓reduceIte, Nat.reduceEqDiff, Nat.reduceAdd, Nat.reduceMul, Nat.reduceSub, Int.reduceToNat, Nat.reduceBEq, List.size_toArray, List.length_cons, List.length_nil, Bool.false_and, Bool.true_and, Bool.or_false, Bool.false_or, Bool.and_false, Bool.and_true, s12], by simp (disch := first | (simp only [go_sem, Bool.and_self, eq_self]; done) | omega | (simp only [List.length_cons, List.length_nil]; omega)) only [go_sem, ↓reduceIte, Nat.reduceEqDiff, Nat.reduceAdd, Nat.reduceMul, Nat.reduceSub, Int.reduceToNat, Nat.reduceBEq, List.size_toArray, List.length_cons, List.length_nil, Bool.false_and, Bool.true_and, Bool.or_false, Bool.false_or, Bool.and_false, Bool.and_true, s1], by simp (disch := first | (simp only [go_sem, Bool.and_self, eq_self]; done) | omega | (simp only [List.length_cons, List.length_nil]; omega)) only [go_sem, ↓reduceIte, Nat.reduceEqDiff, Nat.reduceAdd, Nat.reduceMul, Nat.reduceSub, Int.reduceToNat, Nat.reduceBEq, List.size_toArray, List.length_cons, List.length_nil, Bool.false_and, Bool.true_and, Bool.or_false, Bool.false_or, Bool.and_false, Bool.and_true, s6], by simp (disch := first | (simp only [go_sem, Bool.and_self, eq_self]; done) | omega | (simp only [List.length_cons, List.length_nil]; omega)) only [go_sem, ↓reduceIte, Nat.reduceEqDiff, Nat.reduceAdd, Nat.reduceMul, Nat.reduceSub, Int.reduceToNat, Nat.reduceBEq, List.size_toArray, List.length_cons, List.length_nil, Bool.false_and, Bool.true_and, Bool.or_false, Bool.false_or, Bool.and_false, Bool.and_true, s7], by simp (disch := first | (simp only [go_sem, Bool.and_self, eq_self]; done) | omega | (simp only [List.length_cons, List.length_nil]; omega)) only [go_sem, ↓reduceIte, Nat.reduceEqDiff, Nat.reduceAdd, Nat.reduceMul, Nat.reduceSub, Int.reduceToNat, Nat.reduceBEq, List.size_toArray, List.length_cons, List.length_nil, Bool.false_and, Bool.true_and, Bool.or_false, Bool.false_or, Bool.and_false, Bool.and_true, s10], hnx, bG, bs, bl, fun j hj hj2 => ?_⟩
    rcases Nat.lt_or_ge j i with h3 | h3
    · exact hg j h3 hj2
    · rw [show j = i by omega]; exact ho

end Go.Proofs.Ytpkakapbepkfdaa

set_option linter.unusedVariables false
set_option linter.unusedSimpArgs false
set_option maxRecDepth 10000
namespace Go.Proofs.Ytpkakapbepkfdaa
open Go Go.Am

/-- A trail that is active. -/
noncomputable def goodB (p : List (List Int)) (s l : List Int) : Bool := tB p l && actB p s l
/-- A variable that a trail may go on to. -/
noncomputable def goB (p : List (List Int)) (s pre : List Int) (v : Int) : Bool :=
  joinB p (nth pre (pre.length - 1)) v && (!hasB pre v && (decide (pre.length ≤ 1) || opB p s (nth pre (pre.length - 2)) (nth pre (pre.length - 1)) v))
theorem goodB_iff {p : List (List Int)} {s l : List Int} : goodB p s l = true ↔ (∀ i, i < l.length → tE p l i = true) ∧ ∀ i, i + 2 < l.length → opB p s (nth l i) (nth l (i + 1)) (nth l (i + 2)) = true := by
  rw [goodB, Bool.and_eq_true]
  constructor
  · rintro ⟨h1, h2⟩
    exact ⟨fun i hi => range_all h1 hi, fun i hi => range_all h2 (by omega)⟩
  · rintro ⟨h1, h2⟩
    exact ⟨all_range h1, all_range fun i hi => h2 i (by omega)⟩
theorem tE_append {p : List (List Int)} {a b : List Int} {i : Nat} (hi : i < a.length) : tE p (a ++ b) i = tE p a i := by
  have ht : (a ++ b).take i = a.take i := List.take_append_of_le_length (by omega)
  rw [tE, tE, diffE, diffE, ht, nth_append_left _ _ _ hi]
  cases i with
  | zero => rfl
  | succ i => rw [nth_append_left _ _ _ (show i + 1 - 1 < a.length by omega)]
theorem goodB_pre {p : List (List Int)} {s a b : List Int} (h : goodB p s (a ++ b) = true) : goodB p s a = true := by
  rw [goodB_iff] at h ⊢
  refine ⟨fun i hi => ?_, fun i hi => ?_⟩
  · rw [← tE_append (b := b) hi]; exact h.1 i (by rw [List.length_append]; omega)
  · have := h.2 i (by rw [List.length_append]; omega)
    rwa [nth_append_left _ _ _ (by omega), nth_append_left _ _ _ (by omega), nth_append_left _ _ _ (by omega)] at this
theorem goodB_snoc {p : List (List Int)} {s pre : List Int} {v : Int} (hp : goodB p s pre = true) (h0 : 0 < pre.length) : goodB p s (pre ++ [v]) = true ↔ (0 ≤ v ∧ v < p.length) ∧ goB p s pre v = true := by
  have hlen : (pre ++ [v]).length = pre.length + 1 := by simp
  have hlast : nth (pre ++ [v]) pre.length = v := nth_append_last _ _
  have htk : (pre ++ [v]).take pre.length = pre := List.take_left
  have hl1 : nth (pre ++ [v]) (pre.length - 1) = nth pre (pre.length - 1) := nth_append_left _ _ _ (by omega)
  have hE : tE p (pre ++ [v]) pre.length = true ↔ (0 ≤ v ∧ v < p.length) ∧ hasB pre v = false ∧ joinB p (nth pre (pre.length - 1)) v = true := by
    rw [tE, diffE, htk, hlast, hl1]
    have : (pre.length == 0) = false := by simp; intro h; rw [h] at h0; simp at h0
    rw [this, Bool.false_or]
    simp only [Bool.and_eq_true, Bool.not_eq_true', decide_eq_false_iff_not]
    constructor
    · rintro ⟨⟨a, b, c⟩, d⟩; exact ⟨by omega, c, d⟩
    · rintro ⟨a, c, d⟩; exact ⟨⟨by omega, by omega, c⟩, d⟩
  rw [goodB_iff] at hp ⊢
  rw [goB, Bool.and_eq_true, Bool.and_eq_true, Bool.or_eq_true, decide_eq_true_eq, Bool.not_eq_true']
  constructor
  · rintro ⟨h1, h2⟩
    obtain ⟨a, b, c⟩ := hE.1 (h1 _ (by omega))
    refine ⟨a, c, b, ?_⟩
    rcases Nat.lt_or_ge 1 pre.length with h | h
    · have := h2 (pre.length - 2) (by omega)
      rw [show pre.length - 2 + 1 = pre.length - 1 by omega, show pre.length - 2 + 2 = pre.length by omega, hlast, hl1, nth_append_left _ _ _ (show pre.length - 2 < pre.length by omega)] at this
      exact .inr this
    · exact .inl h
  · rintro ⟨a, c, b, d⟩
    refine ⟨fun i hi => ?_, fun i hi => ?_⟩
    · rcases Nat.lt_or_ge i pre.length with h | h
      · rw [tE_append h]; exact hp.1 i h
      · rw [show i = pre.length by omega]; exact hE.2 ⟨a, b, c⟩
    · rcases Nat.lt_or_ge (i + 2) pre.length with h | h
      · rw [nth_append_left _ _ _ (by omega), nth_append_left _ _ _ (by omega), nth_append_left _ _ _ (by omega)]
        exact hp.2 i h
      · have hi2 : i = pre.length - 2 := by omega
        subst hi2
        rcases d with d | d
        · omega
        · rw [show pre.length - 2 + 1 = pre.length - 1 by omega, show pre.length - 2 + 2 = pre.length by omega, hlast, hl1, nth_append_left _ _ _ (show pre.length - 2 < pre.length by omega)]
          exact d
theorem goodB_one {p : List (List Int)} {s : List Int} {v : Int} (hv : 0 ≤ v ∧ v < p.length) : goodB p s [v] = true := by
  rw [goodB_iff]
  refine ⟨fun i hi => ?_, fun i hi => by simp at hi⟩
  have : i = 0 := by simp at hi; omega
  subst this
  have h1 : ¬ v < 0 := by omega
  have h2 : ¬ (p.length : Int) ≤ v := by omega
  simp [tE, diffE, nth, h1, h2, hasB]
theorem goodB_in {p : List (List Int)} {s l : List Int} (h : goodB p s l = true) {i : Nat} (hi : i < l.length) : 0 ≤ nth l i ∧ nth l i < p.length := by
  rw [goodB, Bool.and_eq_true] at h
  exact diffB_in (tB_diff h.1) hi

/-- A trail that goes on from 'pre', is active and ends at 'to'. -/
def Ends (p : List (List Int)) (s pre : List Int) (to : Int) (l : List Int) : Prop := pre <+: l ∧ goodB p s l = true ∧ nth l (l.length - 1) = to
theorem Ends.go {p : List (List Int)} {s pre l : List Int} {to : Int} (hp : goodB p s pre = true) (h0 : 0 < pre.length) (hne : nth pre (pre.length - 1) ≠ to) (e : Ends p s pre to l) : ∃ v : Nat, v < p.length ∧ goB p s pre v = true ∧ Ends p s (pre ++ [(v : Int)]) to l := by
  obtain ⟨⟨m, rfl⟩, h2, h3⟩ := e
  cases m with
  | nil => rw [List.append_nil] at h3; exact (hne h3).elim
  | cons v m =>
    have hs : pre ++ v :: m = (pre ++ [v]) ++ m := by simp
    rw [hs] at h2 h3
    obtain ⟨a, b⟩ := (goodB_snoc hp h0).1 (goodB_pre h2)
    have hv : ((v.toNat : Nat) : Int) = v := by omega
    exact ⟨v.toNat, by omega, by rw [hv]; exact b, by rw [hv, hs]; exact ⟨List.prefix_append _ _, h2, h3⟩⟩
theorem Ends.back {p : List (List Int)} {s pre l : List Int} {v to : Int} (e : Ends p s (pre ++ [v]) to l) : Ends p s pre to l :=
  ⟨(List.prefix_append _ _).trans e.1, e.2.1, e.2.2⟩
/-- Different numbers below d are at most d. -/
theorem pigeon0 : ∀ (d : Nat) (L : List Int), L.Nodup → (∀ v ∈ L, 0 ≤ v ∧ v < d) → L.length ≤ d := by
  intro d
  induction d with
  | zero =>
    intro L hn hv
    cases L with
    | nil => simp
    | cons x xs => have := hv x (by simp); omega
  | succ d ih =>
    intro L hn hv
    have h1 := ih (L.erase (d : Int)) (hn.erase _) (by
      intro v hvm
      have h2 := (hn.mem_erase_iff).1 hvm
      have h3 := hv v h2.2
      have h4 := h2.1
      omega)
    have h5 : L.length ≤ (L.erase (d : Int)).length + 1 := by
      rw [List.length_erase]
      split <;> omega
    omega
theorem diffB_len {n : Nat} {l : List Int} (h : diffB n l = true) : l.length ≤ n := by
  refine pigeon0 n l ?_ fun v hv => ?_
  · rw [List.Nodup, List.pairwise_iff_getElem]
    intro i j hi hj hij he
    have := range_all h hj
    simp only [diffE, Bool.and_eq_true, Bool.not_eq_true'] at this
    have h2 : hasB (l.take j) (nth l j) = true := hasB_iff.2 ⟨i, by rw [List.length_take]; omega, by
      rw [nth_getElem hj, ← he, nth_getElem (by rw [List.length_take]; omega), List.getElem_take]⟩
    rw [this.2.2] at h2; cases h2
  · obtain ⟨j, hj, rfl⟩ := List.getElem_of_mem hv
    rw [← nth_getElem hj]; exact diffB_in h hj
theorem goodB_len {p : List (List Int)} {s l : List Int} (h : goodB p s l = true) : l.length ≤ p.length := by
  rw [goodB, Bool.and_eq_true] at h
  exact diffB_len (tB_diff h.1)

/-! ### The same, read from its end -/
theorem nth_rev (l : List Int) (i : Nat) (hi : i < l.length) : nth l.reverse i = nth l (l.length - 1 - i) := by
  rw [nth_getElem (by simpa using hi), nth_getElem (by omega), List.getElem_reverse]
theorem diffB_iff {n : Int} {l : List Int} : diffB n l = true ↔ (∀ v ∈ l, 0 ≤ v ∧ v < n) ∧ ∀ i j, i < j → j < l.length → nth l i ≠ nth l j := by
  constructor
  · intro h
    refine ⟨fun v hv => ?_, fun i j hij hj e => ?_⟩
    · obtain ⟨j, hj, rfl⟩ := List.getElem_of_mem hv
      rw [← nth_getElem hj]; exact diffB_in h hj
    · have := range_all h hj
      simp only [diffE, Bool.and_eq_true, Bool.not_eq_true'] at this
      have h2 : hasB (l.take j) (nth l j) = true := hasB_iff.2 ⟨i, by rw [List.length_take]; omega, by rw [← e, nth_getElem (by rw [List.length_take]; omega), List.getElem_take, nth_getElem (by omega)]⟩
      rw [this.2.2] at h2; cases h2
  · rintro ⟨h1, h2⟩
    refine all_range fun i hi => ?_
    have := h1 _ (nth_mem hi)
    have h3 : hasB (l.take i) (nth l i) = false := hasB_no fun j hj e => by
      rw [List.length_take] at hj
      rw [nth_getElem (by rw [List.length_take]; omega), List.getElem_take, ← nth_getElem (by omega)] at e
      exact h2 j i (by omega) hi e
    simp only [diffE, Bool.and_eq_true, Bool.not_eq_true', decide_eq_false_iff_not]
    exact ⟨by omega, by omega, h3⟩
theorem joinB_comm (p : List (List Int)) (u v : Int) : joinB p u v = joinB p v u := Bool.or_comm _ _
theorem tB_iff {p : List (List Int)} {l : List Int} : tB p l = true ↔ diffB p.length l = true ∧ ∀ i, i + 1 < l.length → joinB p (nth l i) (nth l (i + 1)) = true := by
  constructor
  · exact fun h => ⟨tB_diff h, fun i hi => tB_join h hi⟩
  · rintro ⟨hd, h⟩
    refine all_range fun i hi => ?_
    have hdi := range_all hd hi
    rw [tE, hdi, Bool.true_and]
    cases i with
    | zero => rfl
    | succ i => simpa using h i hi
theorem tB_rev1 {p : List (List Int)} {l : List Int} (h : tB p l = true) : tB p l.reverse = true := by
  rw [tB_iff, diffB_iff] at h ⊢
  obtain ⟨⟨h1, h2⟩, h3⟩ := h
  refine ⟨⟨fun v hv => h1 v (by simpa using hv), fun i j hij hj e => ?_⟩, fun i hi => ?_⟩
  · rw [List.length_reverse] at hj
    rw [nth_rev _ _ (by omega), nth_rev _ _ hj] at e
    exact h2 (l.length - 1 - j) (l.length - 1 - i) (by omega) (by omega) e.symm
  · rw [List.length_reverse] at hi
    rw [nth_rev _ _ (by omega), nth_rev _ _ hi, joinB_comm]
    have := h3 (l.length - 1 - (i + 1)) (by omega)
    rwa [show l.length - 1 - (i + 1) + 1 = l.length - 1 - i by omega] at this
theorem tB_rev {p : List (List Int)} {l : List Int} : tB p l.reverse = tB p l := by
  rw [Bool.eq_iff_iff]
  exact ⟨fun h => by have := tB_rev1 h; rwa [List.reverse_reverse] at this, tB_rev1⟩
theorem opB_comm (p : List (List Int)) (s : List Int) (u v w : Int) : opB p s u v w = opB p s w v u := by rw [opB, opB, Bool.and_comm]
theorem actB_rev1 {p : List (List Int)} {s l : List Int} (h : actB p s l = true) : actB p s l.reverse = true := by
  refine all_range fun i hi => ?_
  rw [List.length_reverse] at hi
  rw [nth_rev _ _ (by omega), nth_rev _ _ (by omega), nth_rev _ _ (by omega), opB_comm]
  have := range_all h (i := l.length - 1 - (i + 2)) (by omega)
  rwa [show l.length - 1 - (i + 2) + 1 = l.length - 1 - (i + 1) by omega, show l.length - 1 - (i + 2) + 2 = l.length - 1 - i by omega] at this
theorem actB_rev {p : List (List Int)} {s l : List Int} : actB p s l.reverse = actB p s l := by
  rw [Bool.eq_iff_iff]
  exact ⟨fun h => by have := actB_rev1 h; rwa [List.reverse_reverse] at this, actB_rev1⟩
theorem actR_rev (p t : List (List Int)) (l s : List Int) : actR p t l.reverse s = actR p t l s := by
  by_cases h : 2 ≤ l.length
  · rw [actR, actR, tB_rev, actB_rev, List.length_reverse, nth_rev _ _ (by omega), nth_rev _ _ (by omega), show l.length - 1 - 0 = l.length - 1 by omega, show l.length - 1 - (l.length - 1) = 0 by omega, Bool.and_comm (!hasB s (nth l (l.length - 1)))]
  · have h2 : decide (2 ≤ l.length) = false := by simp; omega
    rw [actR_no (by rw [List.length_reverse, h2]; simp), actR_no (by rw [h2]; simp)]

end Go.Proofs.Ytpkakapbepkfdaa

set_option linter.unusedVariables false
set_option linter.unusedSimpArgs false
set_option maxRecDepth 10000
namespace Go.Proofs.Ytpkakapbepkfdaa
open Go Go.Am

variable {h h' : Hp} {K : AV → Hp → Prop}

/-- A list that is read: a list, or a block that was built. -/
def Tr (h : Hp) (v : AV) (pre : List Int) : Prop := v = LI pre ∨ ∃ id fz, v = .sl id 0 pre.length 1 ∧ id < h.nx ∧ h.bl id = some (.cells fz true (pre.flatMap (e1 I)))
/-- The blocks of the closure. -/
structure Env74 (p t : List (List Int)) (s ls : List Int) (to : Int) (A B C : Nat) (h : Hp) : Prop where
  la : A < h.nx
  lb : B < h.nx
  lc : C < h.nx
  bA : h.bl A = some (.cells false false [I to])
  bB : h.bl B = some (.cells false false [LLI p, LLI t, I p.length, mvB s, mvB ls])
  bC : h.bl C = some (.cells false false [.fn 74 [.ptr A 0, .ptr B 0, .ptr C 0]])
/-- What is left alone. -/
def Kept (tv : AV) (h g : Hp) : Prop := h.nx ≤ g.nx ∧ ∀ id, id < h.nx → (∀ o n s, tv ≠ .sl id o n s) → g.bl id = h.bl id
theorem Kept.refl (tv : AV) (h : Hp) : Kept tv h h := ⟨Nat.le_refl _, fun _ _ _ => rfl⟩
theorem Kept.trans {tv : AV} {h g k : Hp} (a : Kept tv h g) (b : Kept tv g k) : Kept tv h k := ⟨Nat.le_trans a.1 b.1, fun id hi hn => (b.2 id (Nat.lt_of_lt_of_le hi a.1) hn).trans (a.2 id hi hn)⟩
/-- What is no list that was built stays where lists are read. -/
theorem Kept.env {p t : List (List Int)} {s ls : List Int} {to : Int} {A B C : Nat} {tv : AV} {pre : List Int} {g : Hp} (k : Kept tv h g) (T : Tr h tv pre) (E : Env74 p t s ls to A B C h) : Env74 p t s ls to A B C g := by
  have key : ∀ id fz cs, h.bl id = some (.cells fz false cs) → ∀ o n s, tv ≠ .sl id o n s := by
    intro id fz cs hb o n s e
    rcases T with rfl | ⟨id2, fz2, rfl, _, hb2⟩
    · cases e
    · cases e; rw [hb] at hb2; simp at hb2
  obtain ⟨la, lb, lc, bA, bB, bC⟩ := E
  exact ⟨Nat.lt_of_lt_of_le la k.1, Nat.lt_of_lt_of_le lb k.1, Nat.lt_of_lt_of_le lc k.1, (k.2 _ la (key _ _ _ bA)).trans bA, (k.2 _ lb (key _ _ _ bB)).trans bB, (k.2 _ lc (key _ _ _ bC)).trans bC⟩
theorem Tr.seal_ {tv : AV} {pre : List Int} (T : Tr h tv pre) : ∃ g, sealA h tv = some (LI pre, g) ∧ Tr g tv pre ∧ g.nx = h.nx ∧ Kept tv h g := by
  rcases T with rfl | ⟨id, fz, rfl, hid, hb⟩
  · exact ⟨h, sealA_L pre, .inl rfl, rfl, .refl _ _⟩
  · refine ⟨h.put id (some (.cells true true (pre.flatMap (e1 I)))), by rw [sealA_sl, hb, sealSl_own id _ fz true pre rfl], .inr ⟨id, true, rfl, hid, by rw [put_bl, if_pos rfl]⟩, rfl, Nat.le_refl _, fun i _ hne => ?_⟩
    rw [put_bl, if_neg fun e => hne 0 pre.length 1 (by rw [e])]
theorem Tr.len {tv : AV} {pre : List Int} (T : Tr h tv pre) : ∀ (g : Hp) (lim : Option Nat), lenB (some (.slice 3)) tv g lim = some (I pre.length) := by
  rcases T with rfl | ⟨id, fz, rfl, hid, hb⟩
  · exact fun g lim => lenB_L 3 _ pre
  · exact fun g lim => rfl
theorem Tr.at {tv : AV} {pre : List Int} (T : Tr h tv pre) (i : Int) (h0 : 0 ≤ i) (h1 : i < pre.length) : ∃ P, idxAddrA Try.prog (some (.slice 3)) tv (I i) = some P ∧ ∃ cs o, cellsAt none h P = some (cs, o) ∧ cellsAt (some h.nx) h P = some (cs, o) ∧ cs[o]? = some (I (nth pre i.toNat)) := by
  have hin : i.toNat < pre.length := by omega
  rcases T with rfl | ⟨id, fz, rfl, hid, hb⟩
  · exact ⟨_, idxAddr_L (f := e1 I) 3 pre .i64 i isz3 h0 h1, _, _, cellsAt_pp _, cellsAt_pp _, rfl⟩
  · refine ⟨_, idxAddr_sl 3 id 0 pre.length 1 .i64 i isz3 h0 h1, pre.flatMap (e1 I), i.toNat, ?_, ?_, ?_⟩
    · rw [cellsAt_ptr, hb, lims_none, rdB_cells]; simp
    · rw [cellsAt_ptr, hb, lims_some _ _ hid, rdB_cells]; simp
    · exact flat_get _ _ _ hin
theorem Tr.ne {tv : AV} {pre : List Int} (T : Tr h tv pre) (h0 : 0 < pre.length) : binA Try.prog .neq 25 tv .nil = some (.bool true) := by
  rcases T with rfl | ⟨id, fz, rfl, hid, hb⟩
  · cases pre with
    | nil => simp at h0
    | cons x xs => rfl
  · cases hn : pre.length with
    | zero => omega
    | succ n => rfl

/-- A place to stop at. -/
def WPl (P : Program) (cfg : Cfg) (c : Code) (st : St) (h : Hp) (Q : Exit → St → Hp → Prop) : Prop := WP P cfg c st h Q
theorem WPl_congr {P : Program} {cfg : Cfg} {c : Code} {st st' : St} {h h' : Hp} {Q : Exit → St → Hp → Prop} (e : st = st') (e2 : h = h') : WPl P cfg c st h Q = WPl P cfg c st' h' Q := by rw [e, e2]
attribute [congr] WPl_congr
theorem stopAt (n : Nat) {P : Program} {cfg : Cfg} {ops : Array Oper} {st : St} {h : Hp} {Q : Exit → St → Hp → Prop} : WP P cfg (.region n ops true) st h Q = WPl P cfg (.region n ops true) st h Q := rfl
theorem WPl_go {P : Program} {cfg : Cfg} {c : Code} {st : St} {h : Hp} {Q : Exit → St → Hp → Prop} (F : St → Prop) (hF : F st) (hw : ∀ st, F st → WP P cfg c st h Q) : WPl P cfg c st h Q := hw st hF

theorem app_clone (h2 : Hp) (pre : List Int) (x : Int) (hl : pre.length ≤ 10) : ∃ g3, appB Try.prog (h2.alloc (.cells false true (pre.flatMap (e1 I)))) (some (.slice 3)) true (.sl h2.nx 0 pre.length 1) (.lst [[I x]]) = some (.sl (h2.nx + 1) 0 (pre ++ [x]).length 1, g3) ∧ g3.nx = h2.nx + 2 ∧ g3.bl (h2.nx + 1) = some (.cells false true ((pre ++ [x]).flatMap (e1 I))) ∧ ∀ id, id < h2.nx → g3.bl id = h2.bl id := by
  have o0 : Own (e1 I) 1 (h2.alloc (.cells false true (pre.flatMap (e1 I)))) (.sl h2.nx 0 pre.length 1) pre := .inr ⟨h2.nx, rfl, by show h2.nx < h2.nx + 1; omega, by simp [Hp.alloc]⟩
  have ha := app_one (P := Try.prog) o0 3 8 (I 0) x isz3 ibytes3 izero3 rfl (by omega) (by omega)
  refine ⟨_, ha, ?_, ?_, fun id hid => ?_⟩
  · rw [appH_nx]; rfl
  · simp [appH, Hp.alloc, Hp.put]
  · have h1 : ¬ id = h2.nx := by omega
    have h3 : ¬ id = h2.nx + 1 := by omega
    simp [appH, Hp.alloc, Hp.put, h1, h3]

/-- What a search comes to. -/
def Srch (p : List (List Int)) (s pre : List Int) (to : Int) (tv : AV) (h : Hp) (v : AV) (h' : Hp) : Prop :=
  Kept tv h h' ∧ ((v = .nil ∧ ∀ l, ¬ Ends p s pre to l) ∨ ∃ l, Tr h' v l ∧ 0 < l.length ∧ Ends p s pre to l)

theorem f74_shr {p t : List (List Int)} (N : Net p t) {s ls : List Int} (hls : ∀ x : Nat, x < p.length → hasB ls x = lowB p s x) (to : Int) (A B C : Nat) : ∀ (k : Nat) (pre : List Int) (tv : AV) (h : Hp), pre.length + k = p.length + 1 → 0 < pre.length → goodB p s pre = true → Tr h tv pre → Env74 p t s ls to A B C h →
    ∃ v h', Shr Try.prog cfg 74 [tv, .ptr A 0, .ptr B 0, .ptr C 0] h v h' ∧ Srch p s pre to tv h v h' := by
  intro k
  induction k with
  | zero => intro pre tv h hk h0 hg; have := goodB_len hg; omega
  | succ k ih =>
  intro pre tv H hk h0 hgood T E
  have ml : maxLen = 9223372036854775807 := by decide
  have hn1 := N.n1
  have hlen10 := goodB_len hgood
  have z1 : (0 : Int) ≤ (pre.length : Int) - 1 := by omega
  have z2 : (pre.length : Int) - 1 < pre.length := by omega
  have z3 : ((pre.length : Int) - 1).toNat = pre.length - 1 := by omega
  obtain ⟨P1, hx1, cs1, o1, c1, _, g1⟩ := T.at _ z1 z2
  rw [z3] at g1
  have hl := T.len
  have bA := E.bA
  have bB := E.bB
  by_cases hto : nth pre (pre.length - 1) = to
  · have hto' : decide (nth pre (pre.length - 1) = to) = true := by simp [hto]
    refine Shr_intro Try.func74 rfl ok74 (Nat.le_of_ble_eq_true rfl) ?_
    simp only [Try.f74, Option.getD_some, initSt4]
    simp (disch := first | (simp only [go_sem, Bool.and_self, eq_self]; done) | omega | (simp only [List.length_cons, List.length_nil]; omega)) only [go_sem, ↓reduceIte, Nat.reduceEqDiff, Nat.reduceAdd, Nat.reduceMul, Nat.reduceSub, Int.reduceToNat, Nat.reduceBEq, List.size_toArray, List.length_cons, List.length_nil, Bool.false_and, Bool.true_and, Bool.or_false, Bool.false_or, Bool.and_false, Bool.and_true, hl, hx1, c1, g1, bA, hto']
    exact ⟨.refl _ _, .inr ⟨pre, T, h0, List.prefix_refl _, hgood, hto⟩⟩
  have hto' : decide (nth pre (pre.length - 1) = to) = false := by simp [hto]
  have hlast := goodB_in hgood (show pre.length - 1 < pre.length by omega)
  refine Shr_intro Try.func74 rfl ok74 (Nat.le_of_ble_eq_true rfl) ?_
  simp only [Try.f74, Option.getD_some, initSt4]
  simp (disch := first | (simp only [go_sem, Bool.and_self, eq_self]; done) | omega | (simp only [List.length_cons, List.length_nil]; omega)) only [go_sem, ↓reduceIte, Nat.reduceEqDiff, Nat.reduceAdd, Nat.reduceMul, Nat.reduceSub, Int.reduceToNat, Nat.reduceBEq, List.size_toArray, List.length_cons, List.length_nil, Bool.false_and, Bool.true_and, Bool.or_false, Bool.false_or, Bool.and_false, Bool.and_true, hl, hx1, c1, g1, bA, bB, hto']
  refine WP_for 22 p.length (fun i st h => st 0 = tv ∧ st 1 = .ptr A 0 ∧ st 2 = .ptr B 0 ∧ st 3 = .ptr C 0 ∧ st 5 = .nil ∧ st 6 = I (nth pre (pre.length - 1)) ∧ st 21 = I p.length ∧ Kept tv H h ∧ Tr h tv pre ∧ ∀ j : Nat, j < i → goB p s pre j = true → ∀ l, ¬ Ends p s (pre ++ [(j : Int)]) to l) (by simp (disch := first | (simp only [go_sem, Bool.and_self, eq_self]; done) | omega | (simp only [List.length_cons, List.length_nil]; omega)) only [go_sem, ↓reduceIte, Nat.reduceEqDiff, Nat.reduceAdd, Nat.reduceMul, Nat.reduceSub, Int.reduceToNat, Nat.reduceBEq, List.size_toArray, List.length_cons, List.length_nil, Bool.false_and, Bool.true_and, Bool.or_false, Bool.false_or, Bool.and_false, Bool.and_true]) ⟨by simp (disch := first | (simp only [go_sem, Bool.and_self, eq_self]; done) | omega | (simp only [List.length_cons, List.length_nil]; omega)) only [go_sem, ↓reduceIte, Nat.reduceEqDiff, Nat.reduceAdd, Nat.reduceMul, Nat.reduceSub, Int.reduceToNat, Nat.reduceBEq, List.size_toArray, List.length_cons, List.length_nil, Bool.false_and, Bool.true_and, Bool.or_false, Bool.false_or, Bool.and_false, Bool.and_true], by simp (disch := first | (simp only [go_sem, Bool.and_self, eq_self]; done) | omega | (simp only [List.length_cons, List.length_nil]; omega)) only [go_sem, ↓reduceIte, Nat.reduceEqDiff, Nat.reduceAdd, Nat.reduceMul, Nat.reduceSub, Int.reduceToNat, Nat.reduceBEq, List.size_toArray, List.length_cons, List.length_nil, Bool.false_and, Bool.true_and, Bool.or_false, Bool.false_or, Bool.and_false, Bool.and_true], by simp (disch := first | (simp only [go_sem, Bool.and_self, eq_self]; done) | omega | (simp only [List.length_cons, List.length_nil]; omega)) only [go_sem, ↓reduceIte, Nat.reduceEqDiff, Nat.reduceAdd, Nat.reduceMul, Nat.reduceSub, Int.reduceToNat, Nat.reduceBEq, List.size_toArray, List.length_cons, List.length_nil, Bool.false_and, Bool.true_and, Bool.or_false, Bool.false_or, Bool.and_false, Bool.and_true], by simp (disch := first | (simp only [go_sem, Bool.and_self, eq_self]; done) | omega | (simp only [List.length_cons, List.length_nil]; omega)) only [go_sem, ↓reduceIte, Nat.reduceEqDiff, Nat.reduceAdd, Nat.reduceMul, Nat.reduceSub, Int.reduceToNat, Nat.reduceBEq, List.size_toArray, List.length_cons, List.length_nil, Bool.false_and, Bool.true_and, Bool.or_false, Bool.false_or, Bool.and_false, Bool.and_true], by simp (disch := first | (simp only [go_sem, Bool.and_self, eq_self]; done) | omega | (simp only [List.length_cons, List.length_nil]; omega)) only [go_sem, ↓reduceIte, Nat.reduceEqDiff, Nat.reduceAdd, Nat.reduceMul, Nat.reduceSub, Int.reduceToNat, Nat.reduceBEq, List.size_toArray, List.length_cons, List.length_nil, Bool.false_and, Bool.true_and, Bool.or_false, Bool.false_or, Bool.and_false, Bool.and_true], by simp (disch := first | (simp only [go_sem, Bool.and_self, eq_self]; done) | omega | (simp only [List.length_cons, List.length_nil]; omega)) only [go_sem, ↓reduceIte, Nat.reduceEqDiff, Nat.reduceAdd, Nat.reduceMul, Nat.reduceSub, Int.reduceToNat, Nat.reduceBEq, List.size_toArray, List.length_cons, List.length_nil, Bool.false_and, Bool.true_and, Bool.or_false, Bool.false_or, Bool.and_false, Bool.and_true], by simp (disch := first | (simp only [go_sem, Bool.and_self, eq_self]; done) | omega | (simp only [List.length_cons, List.length_nil]; omega)) only [go_sem, ↓reduceIte, Nat.reduceEqDiff, Nat.reduceAdd, Nat.reduceMul, Nat.reduceSub, Int.reduceToNat, Nat.reduceBEq, List.size_toArray, List.length_cons, List.length_nil, Bool.false_and, Bool.true_and, Bool.or_false, Bool.false_or, Bool.and_false, Bool.and_true], .refl _ _, T, by omega⟩ ?_
  rintro i st h hi s22 ⟨s0, s1, s2, s3, s5, s6, s21, hk1, T1, hno⟩
  by_cases hlt : i < p.length
  case neg =>
    simp (disch := first | (simp only [go_sem, Bool.and_self, eq_self]; done) | omega | (simp only [List.length_cons, List.length_nil]; omega)) only [go_sem, ↓reduceIte, Nat.reduceEqDiff, Nat.reduceAdd, Nat.reduceMul, Nat.reduceSub, Int.reduceToNat, Nat.reduceBEq, List.size_toArray, List.length_cons, List.length_nil, Bool.false_and, Bool.true_and, Bool.or_false, Bool.false_or, Bool.and_false, Bool.and_true, s0, s1, s2, s3, s5, s6, s21, s22, hlt]
    refine ⟨hk1, .inl ⟨rfl, fun l e => ?_⟩⟩
    obtain ⟨v, hv, h1, h2⟩ := e.go hgood h0 hto
    exact hno v (by omega) h1 l h2
  have E1 := hk1.env T E
  have bB1 := E1.bB
  have skip : goB p s pre i = false → ∀ j : Nat, j < i + 1 → goB p s pre j = true → ∀ l, ¬ Ends p s (pre ++ [(j : Int)]) to l := fun h j hj => by
    rcases Nat.lt_or_ge j i with h3 | h3
    · exact hno j h3
    · rw [show j = i by omega, h]; intro h; cases h
  have hii : 0 ≤ (i : Int) ∧ (i : Int) < p.length := by omega
  have k75' := fun h h' K => k75 (h := h) (h' := h') (K := K) p t N (nth pre (pre.length - 1)) i hlast hii
  have k76' := fun h h' K => k76 (h := h) (h' := h') (K := K) pre i (by omega)
  obtain ⟨h2, hs1, T2, n2, kp2⟩ := T1.seal_
  cases h4 : joinB p (nth pre (pre.length - 1)) i with
  | false =>
    have q := skip (by rw [goB, h4]; rfl)
    simp (disch := first | (simp only [go_sem, Bool.and_self, eq_self]; done) | omega | (simp only [List.length_cons, List.length_nil]; omega)) only [go_sem, ↓reduceIte, Nat.reduceEqDiff, Nat.reduceAdd, Nat.reduceMul, Nat.reduceSub, Int.reduceToNat, Nat.reduceBEq, List.size_toArray, List.length_cons, List.length_nil, Bool.false_and, Bool.true_and, Bool.or_false, Bool.false_or, Bool.and_false, Bool.and_true, s0, s1, s2, s3, s5, s6, s21, s22, hlt, bB1, load79, k75', h4]
    rw [ForK_normal]
    exact ⟨hlt, by simp (disch := first | (simp only [go_sem, Bool.and_self, eq_self]; done) | omega | (simp only [List.length_cons, List.length_nil]; omega)) only [go_sem, ↓reduceIte, Nat.reduceEqDiff, Nat.reduceAdd, Nat.reduceMul, Nat.reduceSub, Int.reduceToNat, Nat.reduceBEq, List.size_toArray, List.length_cons, List.length_nil, Bool.false_and, Bool.true_and, Bool.or_false, Bool.false_or, Bool.and_false, Bool.and_true, s22], by simp (disch := first | (simp only [go_sem, Bool.and_self, eq_self]; done) | omega | (simp only [List.length_cons, List.length_nil]; omega)) only [go_sem, ↓reduceIte, Nat.reduceEqDiff, Nat.reduceAdd, Nat.reduceMul, Nat.reduceSub, Int.reduceToNat, Nat.reduceBEq, List.size_toArray, List.length_cons, List.length_nil, Bool.false_and, Bool.true_and, Bool.or_false, Bool.false_or, Bool.and_false, Bool.and_true, s0], by simp (disch := first | (simp only [go_sem, Bool.and_self, eq_self]; done) | omega | (simp only [List.length_cons, List.length_nil]; omega)) only [go_sem, ↓reduceIte, Nat.reduceEqDiff, Nat.reduceAdd, Nat.reduceMul, Nat.reduceSub, Int.reduceToNat, Nat.reduceBEq, List.size_toArray, List.length_cons, List.length_nil, Bool.false_and, Bool.true_and, Bool.or_false, Bool.false_or, Bool.and_false, Bool.and_true, s1], by simp (disch := first | (simp only [go_sem, Bool.and_self, eq_self]; done) | omega | (simp only [List.length_cons, List.length_nil]; omega)) only [go_sem, ↓reduceIte, Nat.reduceEqDiff, Nat.reduceAdd, Nat.reduceMul, Nat.reduceSub, Int.reduceToNat, Nat.reduceBEq, List.size_toArray, List.length_cons, List.length_nil, Bool.false_and, Bool.true_and, Bool.or_false, Bool.false_or, Bool.and_false, Bool.and_true, s2], by simp (disch := first | (simp only [go_sem, Bool.and_self, eq_self]; done) | omega | (simp only [List.length_cons, List.length_nil]; omega)) only [go_sem, ↓reduceIte, Nat.reduceEqDiff, Nat.reduceAdd, Nat.reduceMul, Nat.reduceSub, Int.reduceToNat, Nat.reduceBEq, List.size_toArray, List.length_cons, List.length_nil, Bool.false_and, Bool.true_and, Bool.or_false, Bool.false_or, Bool.and_false, Bool.and_true, s3], by simp (disch := first | (simp only [go_sem, Bool.and_self, eq_self]; done) | omega | (simp only [List.length_cons, List.length_nil]; omega)) only [go_sem, ↓reduceIte, Nat.reduceEqDiff, Nat.reduceAdd, Nat.reduceMul, Nat.reduceSub, Int.reduceToNat, Nat.reduceBEq, List.size_toArray, List.length_cons, List.length_nil, Bool.false_and, Bool.true_and, Bool.or_false, Bool.false_or, Bool.and_false, Bool.and_true, s5], by simp (disch := first | (simp only [go_sem, Bool.and_self, eq_self]; done) | omega | (simp only [List.length_cons, List.length_nil]; omega)) only [go_sem, ↓reduceIte, Nat.reduceEqDiff, Nat.reduceAdd, Nat.reduceMul, Nat.reduceSub, Int.reduceToNat, Nat.reduceBEq, List.size_toArray, List.length_cons, List.length_nil, Bool.false_and, Bool.true_and, Bool.or_false, Bool.false_or, Bool.and_false, Bool.and_true, s6], by simp (disch := first | (simp only [go_sem, Bool.and_self, eq_self]; done) | omega | (simp only [List.length_cons, List.length_nil]; omega)) only [go_sem, ↓reduceIte, Nat.reduceEqDiff, Nat.reduceAdd, Nat.reduceMul, Nat.reduceSub, Int.reduceToNat, Nat.reduceBEq, List.size_toArray, List.length_cons, List.length_nil, Bool.false_and, Bool.true_and, Bool.or_false, Bool.false_or, Bool.and_false, Bool.and_true, s21], hk1, T1, q⟩
  | true =>
  cases h5 : hasB pre i with
  | true =>
    have q := skip (by rw [goB, h5]; simp)
    simp (disch := first | (simp only [go_sem, Bool.and_self, eq_self]; done) | omega | (simp only [List.length_cons, List.length_nil]; omega)) only [go_sem, ↓reduceIte, Nat.reduceEqDiff, Nat.reduceAdd, Nat.reduceMul, Nat.reduceSub, Int.reduceToNat, Nat.reduceBEq, List.size_toArray, List.length_cons, List.length_nil, Bool.false_and, Bool.true_and, Bool.or_false, Bool.false_or, Bool.and_false, Bool.and_true, s0, s1, s2, s3, s5, s6, s21, s22, hlt, bB1, load79, k75', h4, hs1, k76', h5]
    rw [ForK_normal]
    exact ⟨hlt, by simp (disch := first | (simp only [go_sem, Bool.and_self, eq_self]; done) | omega | (simp only [List.length_cons, List.length_nil]; omega)) only [go_sem, ↓reduceIte, Nat.reduceEqDiff, Nat.reduceAdd, Nat.reduceMul, Nat.reduceSub, Int.reduceToNat, Nat.reduceBEq, List.size_toArray, List.length_cons, List.length_nil, Bool.false_and, Bool.true_and, Bool.or_false, Bool.false_or, Bool.and_false, Bool.and_true, s22], by simp (disch := first | (simp only [go_sem, Bool.and_self, eq_self]; done) | omega | (simp only [List.length_cons, List.length_nil]; omega)) only [go_sem, ↓reduceIte, Nat.reduceEqDiff, Nat.reduceAdd, Nat.reduceMul, Nat.reduceSub, Int.reduceToNat, Nat.reduceBEq, List.size_toArray, List.length_cons, List.length_nil, Bool.false_and, Bool.true_and, Bool.or_false, Bool.false_or, Bool.and_false, Bool.and_true, s0], by simp (disch := first | (simp only [go_sem, Bool.and_self, eq_self]; done) | omega | (simp only [List.length_cons, List.length_nil]; omega)) only [go_sem, ↓reduceIte, Nat.reduceEqDiff, Nat.reduceAdd, Nat.reduceMul, Nat.reduceSub, Int.reduceToNat, Nat.reduceBEq, List.size_toArray, List.length_cons, List.length_nil, Bool.false_and, Bool.true_and, Bool.or_false, Bool.false_or, Bool.and_false, Bool.and_true, s1], by simp (disch := first | (simp only [go_sem, Bool.and_self, eq_self]; done) | omega | (simp only [List.length_cons, List.length_nil]; omega)) only [go_sem, ↓reduceIte, Nat.reduceEqDiff, Nat.reduceAdd, Nat.reduceMul, Nat.reduceSub, Int.reduceToNat, Nat.reduceBEq, List.size_toArray, List.length_cons, List.length_nil, Bool.false_and, Bool.true_and, Bool.or_false, Bool.false_or, Bool.and_false, Bool.and_true, s2], by simp (disch := first | (simp only [go_sem, Bool.and_self, eq_self]; done) | omega | (simp only [List.length_cons, List.length_nil]; omega)) only [go_sem, ↓reduceIte, Nat.reduceEqDiff, Nat.reduceAdd, Nat.reduceMul, Nat.reduceSub, Int.reduceToNat, Nat.reduceBEq, List.size_toArray, List.length_cons, List.length_nil, Bool.false_and, Bool.true_and, Bool.or_false, Bool.false_or, Bool.and_false, Bool.and_true, s3], by simp (disch := first | (simp only [go_sem, Bool.and_self, eq_self]; done) | omega | (simp only [List.length_cons, List.length_nil]; omega)) only [go_sem, ↓reduceIte, Nat.reduceEqDiff, Nat.reduceAdd, Nat.reduceMul, Nat.reduceSub, Int.reduceToNat, Nat.reduceBEq, List.size_toArray, List.length_cons, List.length_nil, Bool.false_and, Bool.true_and, Bool.or_false, Bool.false_or, Bool.and_false, Bool.and_true, s5], by simp (disch := first | (simp only [go_sem, Bool.and_self, eq_self]; done) | omega | (simp only [List.length_cons, List.length_nil]; omega)) only [go_sem, ↓reduceIte, Nat.reduceEqDiff, Nat.reduceAdd, Nat.reduceMul, Nat.reduceSub, Int.reduceToNat, Nat.reduceBEq, List.size_toArray, List.length_cons, List.length_nil, Bool.false_and, Bool.true_and, Bool.or_false, Bool.false_or, Bool.and_false, Bool.and_true, s6], by simp (disch := first | (simp only [go_sem, Bool.and_self, eq_self]; done) | omega | (simp only [List.length_cons, List.length_nil]; omega)) only [go_sem, ↓reduceIte, Nat.reduceEqDiff, Nat.reduceAdd, Nat.reduceMul, Nat.reduceSub, Int.reduceToNat, Nat.reduceBEq, List.size_toArray, List.length_cons, List.length_nil, Bool.false_and, Bool.true_and, Bool.or_false, Bool.false_or, Bool.and_false, Bool.and_true, s21], hk1, T1, q⟩
  | false =>
  have hl99 : ∀ u, loadC (some (.struct u)) (some 5) (some ([LLI p, LLI t, I p.length, mvB s, mvB ls], 0)) = some (.agg [LLI p, LLI t, I p.length, mvB s, mvB ls]) := fun u => loadC_agg _ 5 rfl _ 0 (by simp)
  have hsa : ∀ h : Hp, sealA h (.agg [LLI p, LLI t, I p.length, mvB s, mvB ls]) = some (.agg [LLI p, LLI t, I p.length, mvB s, mvB ls], h) := fun h => sealA_agg _ (by simp only [AV.pureL, pure_L, Bool.true_and]; simp [AV.isPure, pure_entB])
  have hv1 : (((nth pre (pre.length - 1)).toNat : Nat) : Int) = nth pre (pre.length - 1) := by omega
  have hlv := hls (nth pre (pre.length - 1)).toNat (by omega)
  rw [hv1] at hlv
  have k69 := fun h h' K => ConW_num (h := h) (h' := h') (K := K) (f69_con p t N s ls (nth pre (pre.length - 2)) (nth pre (pre.length - 1)) i hlast hlv) rfl
  have lB1 := E1.lb
  have lC1 := E1.lc
  have bC1 := E1.bC
  have k66 := fun h h' K => ConW_any (h := h) (h' := h') (K := K) (f66_con pre h0 (by omega)) rfl
  have hdiv : (pre.flatMap (e1 I)).length / 1 = pre.length := by rw [flat_len, Nat.div_one]
  have hbs := fun h => bsB_one (P := Try.prog) 3 (I i) (I i) (I 0) h isz3 izero3 rfl rfl rfl rfl rfl rfl rfl
  have hnn : binA Try.prog .neq 25 .nil .nil = some (.bool false) := rfl
  have hnl : ¬ h.nx < h.nx := Nat.lt_irrefl _
  obtain ⟨g3, happ, g3n, g3b, g3o⟩ := app_clone h2 pre i (by omega)
  rw [n2] at happ g3n g3b g3o
  have T3 : Tr g3 (.sl (h.nx + 1) 0 (pre ++ [(i : Int)]).length 1) (pre ++ [(i : Int)]) := .inr ⟨h.nx + 1, false, rfl, by omega, g3b⟩
  have E2 := kp2.env T1 E1
  have E3 : Env74 p t s ls to A B C g3 := ⟨by have := E1.la; omega, by omega, by omega, (g3o _ E1.la).trans E2.bA, (g3o _ lB1).trans E2.bB, (g3o _ lC1).trans E2.bC⟩
  have hs74 : goB p s pre i = true → ∃ v h4, Shr Try.prog cfg 74 [.sl (h.nx + 1) 0 (pre ++ [(i : Int)]).length 1, .ptr A 0, .ptr B 0, .ptr C 0] g3 v h4 ∧ (Kept tv h h4 ∧ Tr h4 tv pre) ∧ ((v = .nil ∧ ∀ l, ¬ Ends p s (pre ++ [(i : Int)]) to l) ∨ ∃ l, Tr h4 v l ∧ 0 < l.length ∧ Ends p s pre to l) := by
    intro hgo
    obtain ⟨v, h4, hs, kp4, hv⟩ := ih (pre ++ [(i : Int)]) _ g3 (by simp; omega) (by simp) ((goodB_snoc hgood h0).2 ⟨hii, hgo⟩) T3 E3
    have old : ∀ id, id < h.nx → h4.bl id = h2.bl id := fun id hid => (kp4.2 id (by omega) (fun o n s e => by cases e; omega)).trans (g3o id hid)
    have hn4 : h.nx + 2 ≤ h4.nx := by have := kp4.1; omega
    refine ⟨v, h4, hs, ⟨⟨by omega, fun id hid hne => (old id hid).trans (kp2.2 id hid hne)⟩, ?_⟩, ?_⟩
    · rcases T2 with rfl | ⟨id, fz, e, hid, hb⟩
      · exact .inl rfl
      · exact .inr ⟨id, fz, e, by omega, (old id (by omega)).trans hb⟩
    · rcases hv with hv | ⟨l, h1, h2, h3⟩
      · exact .inl hv
      · exact .inr ⟨l, h1, h2, h3.back⟩
  by_cases h6 : 1 < pre.length
  · have h6' : (1 : Int) < pre.length := by omega
    have y1 : (0 : Int) ≤ (pre.length : Int) - 2 := by omega
    have y2 : (pre.length : Int) - 2 < pre.length := by omega
    have y3 : ((pre.length : Int) - 2).toNat = pre.length - 2 := by omega
    obtain ⟨P2, hx2, cs2, o2, _, c2, g2⟩ := T1.at _ y1 y2
    rw [y3] at g2
    cases h7 : opB p s (nth pre (pre.length - 2)) (nth pre (pre.length - 1)) i with
    | false =>
      have q := skip (by rw [goB, h7]; simp; omega)
      simp (disch := first | (simp only [go_sem, Bool.and_self, eq_self]; done) | omega | (simp only [List.length_cons, List.length_nil]; omega)) only [go_sem, ↓reduceIte, Nat.reduceEqDiff, Nat.reduceAdd, Nat.reduceMul, Nat.reduceSub, Int.reduceToNat, Nat.reduceBEq, List.size_toArray, List.length_cons, List.length_nil, Bool.false_and, Bool.true_and, Bool.or_false, Bool.false_or, Bool.and_false, Bool.and_true, s0, s1, s2, s3, s5, s6, s21, s22, hlt, bB1, load79, k75', h4, hs1, k76', h5, hl, h6', hx2, c2, g2, hl99, hsa, k69, h7, lB1]
      rw [ForK_normal]
      exact ⟨hlt, by simp (disch := first | (simp only [go_sem, Bool.and_self, eq_self]; done) | omega | (simp only [List.length_cons, List.length_nil]; omega)) only [go_sem, ↓reduceIte, Nat.reduceEqDiff, Nat.reduceAdd, Nat.reduceMul, Nat.reduceSub, Int.reduceToNat, Nat.reduceBEq, List.size_toArray, List.length_cons, List.length_nil, Bool.false_and, Bool.true_and, Bool.or_false, Bool.false_or, Bool.and_false, Bool.and_true, s22], by simp (disch := first | (simp only [go_sem, Bool.and_self, eq_self]; done) | omega | (simp only [List.length_cons, List.length_nil]; omega)) only [go_sem, ↓reduceIte, Nat.reduceEqDiff, Nat.reduceAdd, Nat.reduceMul, Nat.reduceSub, Int.reduceToNat, Nat.reduceBEq, List.size_toArray, List.length_cons, List.length_nil, Bool.false_and, Bool.true_and, Bool.or_false, Bool.false_or, Bool.and_false, Bool.and_true, s0], by simp (disch := first | (simp only [go_sem, Bool.and_self, eq_self]; done) | omega | (simp only [List.length_cons, List.length_nil]; omega)) only [go_sem, ↓reduceIte, Nat.reduceEqDiff, Nat.reduceAdd, Nat.reduceMul, Nat.reduceSub, Int.reduceToNat, Nat.reduceBEq, List.size_toArray, List.length_cons, List.length_nil, Bool.false_and, Bool.true_and, Bool.or_false, Bool.false_or, Bool.and_false, Bool.and_true, s1], by simp (disch := first | (simp only [go_sem, Bool.and_self, eq_self]; done) | omega | (simp only [List.length_cons, List.length_nil]; omega)) only [go_sem, ↓reduceIte, Nat.reduceEqDiff, Nat.reduceAdd, Nat.reduceMul, Nat.reduceSub, Int.reduceToNat, Nat.reduceBEq, List.size_toArray, List.length_cons, List.length_nil, Bool.false_and, Bool.true_and, Bool.or_false, Bool.false_or, Bool.and_false, Bool.and_true, s2], by simp (disch := first | (simp only [go_sem, Bool.and_self, eq_self]; done) | omega | (simp only [List.length_cons, List.length_nil]; omega)) only [go_sem, ↓reduceIte, Nat.reduceEqDiff, Nat.reduceAdd, Nat.reduceMul, Nat.reduceSub, Int.reduceToNat, Nat.reduceBEq, List.size_toArray, List.length_cons, List.length_nil, Bool.false_and, Bool.true_and, Bool.or_false, Bool.false_or, Bool.and_false, Bool.and_true, s3], by simp (disch := first | (simp only [go_sem, Bool.and_self, eq_self]; done) | omega | (simp only [List.length_cons, List.length_nil]; omega)) only [go_sem, ↓reduceIte, Nat.reduceEqDiff, Nat.reduceAdd, Nat.reduceMul, Nat.reduceSub, Int.reduceToNat, Nat.reduceBEq, List.size_toArray, List.length_cons, List.length_nil, Bool.false_and, Bool.true_and, Bool.or_false, Bool.false_or, Bool.and_false, Bool.and_true, s5], by simp (disch := first | (simp only [go_sem, Bool.and_self, eq_self]; done) | omega | (simp only [List.length_cons, List.length_nil]; omega)) only [go_sem, ↓reduceIte, Nat.reduceEqDiff, Nat.reduceAdd, Nat.reduceMul, Nat.reduceSub, Int.reduceToNat, Nat.reduceBEq, List.size_toArray, List.length_cons, List.length_nil, Bool.false_and, Bool.true_and, Bool.or_false, Bool.false_or, Bool.and_false, Bool.and_true, s6], by simp (disch := first | (simp only [go_sem, Bool.and_self, eq_self]; done) | omega | (simp only [List.length_cons, List.length_nil]; omega)) only [go_sem, ↓reduceIte, Nat.reduceEqDiff, Nat.reduceAdd, Nat.reduceMul, Nat.reduceSub, Int.reduceToNat, Nat.reduceBEq, List.size_toArray, List.length_cons, List.length_nil, Bool.false_and, Bool.true_and, Bool.or_false, Bool.false_or, Bool.and_false, Bool.and_true, s21], hk1, T1, q⟩
    | true =>
      simp (disch := first | (simp only [go_sem, Bool.and_self, eq_self]; done) | omega | (simp only [List.length_cons, List.length_nil]; omega)) only [go_sem, ↓reduceIte, Nat.reduceEqDiff, Nat.reduceAdd, Nat.reduceMul, Nat.reduceSub, Int.reduceToNat, Nat.reduceBEq, List.size_toArray, List.length_cons, List.length_nil, Bool.false_and, Bool.true_and, Bool.or_false, Bool.false_or, Bool.and_false, Bool.and_true, s0, s1, s2, s3, s5, s6, s21, s22, hlt, bB1, load79, k75', h4, hs1, k76', h5, hl, h6', hx2, c2, g2, hl99, hsa, k69, h7, lB1, ↓stopAt 9]
      have hgo : goB p s pre i = true := by rw [goB, h4, h5]; simp [h6, h7]
      obtain ⟨v, hz, hs, ⟨kz, Tz⟩, hv⟩ := hs74 hgo
      have hcall := fun K => CallW_shr (K := K) 74 _ shr74 hs
      refine WPl_go (fun st => st 0 = tv ∧ st 1 = .ptr A 0 ∧ st 2 = .ptr B 0 ∧ st 3 = .ptr C 0 ∧ st 5 = .nil ∧ st 6 = I (nth pre (pre.length - 1)) ∧ st 21 = I p.length ∧ st 22 = I i ∧ st 7 = I i) ⟨by simp (disch := first | (simp only [go_sem, Bool.and_self, eq_self]; done) | omega | (simp only [List.length_cons, List.length_nil]; omega)) only [go_sem, ↓reduceIte, Nat.reduceEqDiff, Nat.reduceAdd, Nat.reduceMul, Nat.reduceSub, Int.reduceToNat, Nat.reduceBEq, List.size_toArray, List.length_cons, List.length_nil, Bool.false_and, Bool.true_and, Bool.or_false, Bool.false_or, Bool.and_false, Bool.and_true, s0, s1, s2, s3, s5, s6, s21], by simp (disch := first | (simp only [go_sem, Bool.and_self, eq_self]; done) | omega | (simp only [List.length_cons, List.length_nil]; omega)) only [go_sem, ↓reduceIte, Nat.reduceEqDiff, Nat.reduceAdd, Nat.reduceMul, Nat.reduceSub, Int.reduceToNat, Nat.reduceBEq, List.size_toArray, List.length_cons, List.length_nil, Bool.false_and, Bool.true_and, Bool.or_false, Bool.false_or, Bool.and_false, Bool.and_true, s0, s1, s2, s3, s5, s6, s21], by simp (disch := first | (simp only [go_sem, Bool.and_self, eq_self]; done) | omega | (simp only [List.length_cons, List.length_nil]; omega)) only [go_sem, ↓reduceIte, Nat.reduceEqDiff, Nat.reduceAdd, Nat.reduceMul, Nat.reduceSub, Int.reduceToNat, Nat.reduceBEq, List.size_toArray, List.length_cons, List.length_nil, Bool.false_and, Bool.true_and, Bool.or_false, Bool.false_or, Bool.and_false, Bool.and_true, s0, s1, s2, s3, s5, s6, s21], by simp (disch := first | (simp only [go_sem, Bool.and_self, eq_self]; done) | omega | (simp only [List.length_cons, List.length_nil]; omega)) only [go_sem, ↓reduceIte, Nat.reduceEqDiff, Nat.reduceAdd, Nat.reduceMul, Nat.reduceSub, Int.reduceToNat, Nat.reduceBEq, List.size_toArray, List.length_cons, List.length_nil, Bool.false_and, Bool.true_and, Bool.or_false, Bool.false_or, Bool.and_false, Bool.and_true, s0, s1, s2, s3, s5, s6, s21], by simp (disch := first | (simp only [go_sem, Bool.and_self, eq_self]; done) | omega | (simp only [List.length_cons, List.length_nil]; omega)) only [go_sem, ↓reduceIte, Nat.reduceEqDiff, Nat.reduceAdd, Nat.reduceMul, Nat.reduceSub, Int.reduceToNat, Nat.reduceBEq, List.size_toArray, List.length_cons, List.length_nil, Bool.false_and, Bool.true_and, Bool.or_false, Bool.false_or, Bool.and_false, Bool.and_true, s0, s1, s2, s3, s5, s6, s21], by simp (disch := first | (simp only [go_sem, Bool.and_self, eq_self]; done) | omega | (simp only [List.length_cons, List.length_nil]; omega)) only [go_sem, ↓reduceIte, Nat.reduceEqDiff, Nat.reduceAdd, Nat.reduceMul, Nat.reduceSub, Int.reduceToNat, Nat.reduceBEq, List.size_toArray, List.length_cons, List.length_nil, Bool.false_and, Bool.true_and, Bool.or_false, Bool.false_or, Bool.and_false, Bool.and_true, s0, s1, s2, s3, s5, s6, s21], by simp (disch := first | (simp only [go_sem, Bool.and_self, eq_self]; done) | omega | (simp only [List.length_cons, List.length_nil]; omega)) only [go_sem, ↓reduceIte, Nat.reduceEqDiff, Nat.reduceAdd, Nat.reduceMul, Nat.reduceSub, Int.reduceToNat, Nat.reduceBEq, List.size_toArray, List.length_cons, List.length_nil, Bool.false_and, Bool.true_and, Bool.or_false, Bool.false_or, Bool.and_false, Bool.and_true, s0, s1, s2, s3, s5, s6, s21], by simp (disch := first | (simp only [go_sem, Bool.and_self, eq_self]; done) | omega | (simp only [List.length_cons, List.length_nil]; omega)) only [go_sem, ↓reduceIte, Nat.reduceEqDiff, Nat.reduceAdd, Nat.reduceMul, Nat.reduceSub, Int.reduceToNat, Nat.reduceBEq, List.size_toArray, List.length_cons, List.length_nil, Bool.false_and, Bool.true_and, Bool.or_false, Bool.false_or, Bool.and_false, Bool.and_true, s22], by simp (disch := first | (simp only [go_sem, Bool.and_self, eq_self]; done) | omega | (simp only [List.length_cons, List.length_nil]; omega)) only [go_sem, ↓reduceIte, Nat.reduceEqDiff, Nat.reduceAdd, Nat.reduceMul, Nat.reduceSub, Int.reduceToNat, Nat.reduceBEq, List.size_toArray, List.length_cons, List.length_nil, Bool.false_and, Bool.true_and, Bool.or_false, Bool.false_or, Bool.and_false, Bool.and_true]⟩ ?_
      clear s22 s0 s1 s2 s3 s5 s6 s21
      rintro st ⟨s0, s1, s2, s3, s5, s6, s21, s22, s7⟩
      rcases hv with ⟨rfl, hv⟩ | ⟨l, Tl, hl0, el⟩
      · simp (disch := first | (simp only [go_sem, Bool.and_self, eq_self]; done) | omega | (simp only [List.length_cons, List.length_nil]; omega)) only [go_sem, ↓reduceIte, Nat.reduceEqDiff, Nat.reduceAdd, Nat.reduceMul, Nat.reduceSub, Int.reduceToNat, Nat.reduceBEq, List.size_toArray, List.length_cons, List.length_nil, Bool.false_and, Bool.true_and, Bool.or_false, Bool.false_or, Bool.and_false, Bool.and_true, s0, s1, s2, s3, s5, s6, s21, s22, s7, bC1, lC1, List.filterMap_cons, List.filterMap_nil, List.contains_nil, Bool.not_false, Bool.or_true, Bool.true_or, hs1, k66, hdiv, n2, hbs, happ, hnl, List.cons_append, List.nil_append, hcall, hnn]
        rw [ForK_normal]
        exact ⟨hlt, by simp (disch := first | (simp only [go_sem, Bool.and_self, eq_self]; done) | omega | (simp only [List.length_cons, List.length_nil]; omega)) only [go_sem, ↓reduceIte, Nat.reduceEqDiff, Nat.reduceAdd, Nat.reduceMul, Nat.reduceSub, Int.reduceToNat, Nat.reduceBEq, List.size_toArray, List.length_cons, List.length_nil, Bool.false_and, Bool.true_and, Bool.or_false, Bool.false_or, Bool.and_false, Bool.and_true, s22], by simp (disch := first | (simp only [go_sem, Bool.and_self, eq_self]; done) | omega | (simp only [List.length_cons, List.length_nil]; omega)) only [go_sem, ↓reduceIte, Nat.reduceEqDiff, Nat.reduceAdd, Nat.reduceMul, Nat.reduceSub, Int.reduceToNat, Nat.reduceBEq, List.size_toArray, List.length_cons, List.length_nil, Bool.false_and, Bool.true_and, Bool.or_false, Bool.false_or, Bool.and_false, Bool.and_true, s0], by simp (disch := first | (simp only [go_sem, Bool.and_self, eq_self]; done) | omega | (simp only [List.length_cons, List.length_nil]; omega)) only [go_sem, ↓reduceIte, Nat.reduceEqDiff, Nat.reduceAdd, Nat.reduceMul, Nat.reduceSub, Int.reduceToNat, Nat.reduceBEq, List.size_toArray, List.length_cons, List.length_nil, Bool.false_and, Bool.true_and, Bool.or_false, Bool.false_or, Bool.and_false, Bool.and_true, s1], by simp (disch := first | (simp only [go_sem, Bool.and_self, eq_self]; done) | omega | (simp only [List.length_cons, List.length_nil]; omega)) only [go_sem, ↓reduceIte, Nat.reduceEqDiff, Nat.reduceAdd, Nat.reduceMul, Nat.reduceSub, Int.reduceToNat, Nat.reduceBEq, List.size_toArray, List.length_cons, List.length_nil, Bool.false_and, Bool.true_and, Bool.or_false, Bool.false_or, Bool.and_false, Bool.and_true, s2], by simp (disch := first | (simp only [go_sem, Bool.and_self, eq_self]; done) | omega | (simp only [List.length_cons, List.length_nil]; omega)) only [go_sem, ↓reduceIte, Nat.reduceEqDiff, Nat.reduceAdd, Nat.reduceMul, Nat.reduceSub, Int.reduceToNat, Nat.reduceBEq, List.size_toArray, List.length_cons, List.length_nil, Bool.false_and, Bool.true_and, Bool.or_false, Bool.false_or, Bool.and_false, Bool.and_true, s3], by simp (disch := first | (simp only [go_sem, Bool.and_self, eq_self]; done) | omega | (simp only [List.length_cons, List.length_nil]; omega)) only [go_sem, ↓reduceIte, Nat.reduceEqDiff, Nat.reduceAdd, Nat.reduceMul, Nat.reduceSub, Int.reduceToNat, Nat.reduceBEq, List.size_toArray, List.length_cons, List.length_nil, Bool.false_and, Bool.true_and, Bool.or_false, Bool.false_or, Bool.and_false, Bool.and_true, s5], by simp (disch := first | (simp only [go_sem, Bool.and_self, eq_self]; done) | omega | (simp only [List.length_cons, List.length_nil]; omega)) only [go_sem, ↓reduceIte, Nat.reduceEqDiff, Nat.reduceAdd, Nat.reduceMul, Nat.reduceSub, Int.reduceToNat, Nat.reduceBEq, List.size_toArray, List.length_cons, List.length_nil, Bool.false_and, Bool.true_and, Bool.or_false, Bool.false_or, Bool.and_false, Bool.and_true, s6], by simp (disch := first | (simp only [go_sem, Bool.and_self, eq_self]; done) | omega | (simp only [List.length_cons, List.length_nil]; omega)) only [go_sem, ↓reduceIte, Nat.reduceEqDiff, Nat.reduceAdd, Nat.reduceMul, Nat.reduceSub, Int.reduceToNat, Nat.reduceBEq, List.size_toArray, List.length_cons, List.length_nil, Bool.false_and, Bool.true_and, Bool.or_false, Bool.false_or, Bool.and_false, Bool.and_true, s21], hk1.trans kz, Tz, fun j hj => by
          rcases Nat.lt_or_ge j i with h3 | h3
          · exact hno j h3
          · rw [show j = i by omega]; exact fun _ => hv⟩
      · have hne := Tl.ne hl0
        simp (disch := first | (simp only [go_sem, Bool.and_self, eq_self]; done) | omega | (simp only [List.length_cons, List.length_nil]; omega)) only [go_sem, ↓reduceIte, Nat.reduceEqDiff, Nat.reduceAdd, Nat.reduceMul, Nat.reduceSub, Int.reduceToNat, Nat.reduceBEq, List.size_toArray, List.length_cons, List.length_nil, Bool.false_and, Bool.true_and, Bool.or_false, Bool.false_or, Bool.and_false, Bool.and_true, s0, s1, s2, s3, s5, s6, s21, s22, s7, bC1, lC1, List.filterMap_cons, List.filterMap_nil, List.contains_nil, Bool.not_false, Bool.or_true, Bool.true_or, hs1, k66, hdiv, n2, hbs, happ, hnl, List.cons_append, List.nil_append, hcall, hne]
        exact ⟨hk1.trans kz, .inr ⟨l, Tl, hl0, el⟩⟩
  · have h6' : ¬ (1 : Int) < pre.length := by omega
    have h7 : pre.length ≤ 1 := by omega
    simp (disch := first | (simp only [go_sem, Bool.and_self, eq_self]; done) | omega | (simp only [List.length_cons, List.length_nil]; omega)) only [go_sem, ↓reduceIte, Nat.reduceEqDiff, Nat.reduceAdd, Nat.reduceMul, Nat.reduceSub, Int.reduceToNat, Nat.reduceBEq, List.size_toArray, List.length_cons, List.length_nil, Bool.false_and, Bool.true_and, Bool.or_false, Bool.false_or, Bool.and_false, Bool.and_true, s0, s1, s2, s3, s5, s6, s21, s22, hlt, bB1, load79, k75', h4, hs1, k76', h5, hl, h6', ↓stopAt 9]
    have hgo : goB p s pre i = true := by rw [goB, h4, h5]; simp [h6, h7]
    obtain ⟨v, hz, hs, ⟨kz, Tz⟩, hv⟩ := hs74 hgo
    have hcall := fun K => CallW_shr (K := K) 74 _ shr74 hs
    refine WPl_go (fun st => st 0 = tv ∧ st 1 = .ptr A 0 ∧ st 2 = .ptr B 0 ∧ st 3 = .ptr C 0 ∧ st 5 = .nil ∧ st 6 = I (nth pre (pre.length - 1)) ∧ st 21 = I p.length ∧ st 22 = I i ∧ st 7 = I i) ⟨by simp (disch := first | (simp only [go_sem, Bool.and_self, eq_self]; done) | omega | (simp only [List.length_cons, List.length_nil]; omega)) only [go_sem, ↓reduceIte, Nat.reduceEqDiff, Nat.reduceAdd, Nat.reduceMul, Nat.reduceSub, Int.reduceToNat, Nat.reduceBEq, List.size_toArray, List.length_cons, List.length_nil, Bool.false_and, Bool.true_and, Bool.or_false, Bool.false_or, Bool.and_false, Bool.and_true, s0, s1, s2, s3, s5, s6, s21], by simp (disch := first | (simp only [go_sem, Bool.and_self, eq_self]; done) | omega | (simp only [List.length_cons, List.length_nil]; omega)) only [go_sem, ↓reduceIte, Nat.reduceEqDiff, Nat.reduceAdd, Nat.reduceMul, Nat.reduceSub, Int.reduceToNat, Nat.reduceBEq, List.size_toArray, List.length_cons, List.length_nil, Bool.false_and, Bool.true_and, Bool.or_false, Bool.false_or, Bool.and_false, Bool.and_true, s0, s1, s2, s3, s5, s6, s21], by simp (disch := first | (simp only [go_sem, Bool.and_self, eq_self]; done) | omega | (simp only [List.length_cons, List.length_nil]; omega)) only [go_sem, ↓reduceIte, Nat.reduceEqDiff, Nat.reduceAdd, Nat.reduceMul, Nat.reduceSub, Int.reduceToNat, Nat.reduceBEq, List.size_toArray, List.length_cons, List.length_nil, Bool.false_and, Bool.true_and, Bool.or_false, Bool.false_or, Bool.and_false, Bool.and_true, s0, s1, s2, s3, s5, s6, s21], by simp (disch := first | (simp only [go_sem, Bool.and_self, eq_self]; done) | omega | (simp only [List.length_cons, List.length_nil]; omega)) only [go_sem, ↓reduceIte, Nat.reduceEqDiff, Nat.reduceAdd, Nat.reduceMul, Nat.reduceSub, Int.reduceToNat, Nat.reduceBEq, List.size_toArray, List.length_cons, List.length_nil, Bool.false_and, Bool.true_and, Bool.or_false, Bool.false_or, Bool.and_false, Bool.and_true, s0, s1, s2, s3, s5, s6, s21], by simp (disch := first | (simp only [go_sem, Bool.and_self, eq_self]; done) | omega | (simp only [List.length_cons, List.length_nil]; omega)) only [go_sem, ↓reduceIte, Nat.reduceEqDiff, Nat.reduceAdd, Nat.reduceMul, Nat.reduceSub, Int.reduceToNat, Nat.reduceBEq, List.size_toArray, List.length_cons, List.length_nil, Bool.false_and, Bool.true_and, Bool.or_false, Bool.false_or, Bool.and_false, Bool.and_true, s0, s1, s2, s3, s5, s6, s21], by simp (disch := first | (simp only [go_sem, Bool.and_self, eq_self]; done) | omega | (simp only [List.length_cons, List.length_nil]; omega)) only [go_sem, ↓reduceIte, Nat.reduceEqDiff, Nat.reduceAdd, Nat.reduceMul, Nat.reduceSub, Int.reduceToNat, Nat.reduceBEq, List.size_toArray, List.length_cons, List.length_nil, Bool.false_and, Bool.true_and, Bool.or_false, Bool.false_or, Bool.and_false, Bool.and_true, s0, s1, s2, s3, s5, s6, s21], by simp (disch := first | (simp only [go_sem, Bool.and_self, eq_self]; done) | omega | (simp only [List.length_cons, List.length_nil]; omega)) only [go_sem, ↓reduceIte, Nat.reduceEqDiff, Nat.reduceAdd, Nat.reduceMul, Nat.reduceSub, Int.reduceToNat, Nat.reduceBEq, List.size_toArray, List.length_cons, List.length_nil, Bool.false_and, Bool.true_and, Bool.or_false, Bool.false_or, Bool.and_false, Bool.and_true, s0, s1, s2, s3, s5, s6, s21], by simp (disch := first | (simp only [go_sem, Bool.and_self, eq_self]; done) | omega | (simp only [List.length_cons, List.length_nil]; omega)) only [go_sem, ↓reduceIte, Nat.reduceEqDiff, Nat.reduceAdd, Nat.reduceMul, Nat.reduceSub, Int.reduceToNat, Nat.reduceBEq, List.size_toArray, List.length_cons, List.length_nil, Bool.false_and, Bool.true_and, Bool.or_false, Bool.false_or, Bool.and_false, Bool.and_true, s22], by simp (disch := first | (simp only [go_sem, Bool.and_self, eq_self]; done) | omega | (simp only [List.length_cons, List.length_nil]; omega)) only [go_sem, ↓reduceIte, Nat.reduceEqDiff, Nat.reduceAdd, Nat.reduceMul, Nat.reduceSub, Int.reduceToNat, Nat.reduceBEq, List.size_toArray, List.length_cons, List.length_nil, Bool.false_and, Bool.true_and, Bool.or_false, Bool.false_or, Bool.and_false, Bool.and_true]⟩ ?_
    clear s22 s0 s1 s2 s3 s5 s6 s21
    rintro st ⟨s0, s1, s2, s3, s5, s6, s21, s22, s7⟩
    rcases hv with ⟨rfl, hv⟩ | ⟨l, Tl, hl0, el⟩
    · simp (disch := first | (simp only [go_sem, Bool.and_self, eq_self]; done) | omega | (simp only [List.length_cons, List.length_nil]; omega)) only [go_sem, ↓reduceIte, Nat.reduceEqDiff, Nat.reduceAdd, Nat.reduceMul, Nat.reduceSub, Int.reduceToNat, Nat.reduceBEq, List.size_toArray, List.length_cons, List.length_nil, Bool.false_and, Bool.true_and, Bool.or_false, Bool.false_or, Bool.and_false, Bool.and_true, s0, s1, s2, s3, s5, s6, s21, s22, s7, bC1, lC1, List.filterMap_cons, List.filterMap_nil, List.contains_nil, Bool.not_false, Bool.or_true, Bool.true_or, hs1, k66, hdiv, n2, hbs, happ, hnl, List.cons_append, List.nil_append, hcall, hnn]
      rw [ForK_normal]
      exact ⟨hlt, by simp (disch := first | (simp only [go_sem, Bool.and_self, eq_self]; done) | omega | (simp only [List.length_cons, List.length_nil]; omega)) only [go_sem, ↓reduceIte, Nat.reduceEqDiff, Nat.reduceAdd, Nat.reduceMul, Nat.reduceSub, Int.reduceToNat, Nat.reduceBEq, List.size_toArray, List.length_cons, List.length_nil, Bool.false_and, Bool.true_and, Bool.or_false, Bool.false_or, Bool.and_false, Bool.and_true, s22], by simp (disch := first | (simp only [go_sem, Bool.and_self, eq_self]; done) | omega | (simp only [List.length_cons, List.length_nil]; omega)) only [go_sem, ↓reduceIte, Nat.reduceEqDiff, Nat.reduceAdd, Nat.reduceMul, Nat.reduceSub, Int.reduceToNat, Nat.reduceBEq, List.size_toArray, List.length_cons, List.length_nil, Bool.false_and, Bool.true_and, Bool.or_false, Bool.false_or, Bool.and_false, Bool.and_true, s0], by simp (disch := first | (simp only [go_sem, Bool.and_self, eq_self]; done) | omega | (simp only [List.length_cons, List.length_nil]; omega)) only [go_sem, ↓reduceIte, Nat.reduceEqDiff, Nat.reduceAdd, Nat.reduceMul, Nat.reduceSub, Int.reduceToNat, Nat.reduceBEq, List.size_toArray, List.length_cons, List.length_nil, Bool.false_and, Bool.true_and, Bool.or_false, Bool.false_or, Bool.and_false, Bool.and_true, s1], by simp (disch := first | (simp only [go_sem, Bool.and_self, eq_self]; done) | omega | (simp only [List.length_cons, List.length_nil]; omega)) only [go_sem, ↓reduceIte, Nat.reduceEqDiff, Nat.reduceAdd, Nat.reduceMul, Nat.reduceSub, Int.reduceToNat, Nat.reduceBEq, List.size_toArray, List.length_cons, List.length_nil, Bool.false_and, Bool.true_and, Bool.or_false, Bool.false_or, Bool.and_false, Bool.and_true, s2], by simp (disch := first | (simp only [go_sem, Bool.and_self, eq_self]; done) | omega | (simp only [List.length_cons, List.length_nil]; omega)) only [go_sem, ↓reduceIte, Nat.reduceEqDiff, Nat.reduceAdd, Nat.reduceMul, Nat.reduceSub, Int.reduceToNat, Nat.reduceBEq, List.size_toArray, List.length_cons, List.length_nil, Bool.false_and, Bool.true_and, Bool.or_false, Bool.false_or, Bool.and_false, Bool.and_true, s3], by simp (disch := first | (simp only [go_sem, Bool.and_self, eq_self]; done) | omega | (simp only [List.length_cons, List.length_nil]; omega)) only [go_sem, ↓reduceIte, Nat.reduceEqDiff, Nat.reduceAdd, Nat.reduceMul, Nat.reduceSub, Int.reduceToNat, Nat.reduceBEq, List.size_toArray, List.length_cons, List.length_nil, Bool.false_and, Bool.true_and, Bool.or_false, Bool.false_or, Bool.and_false, Bool.and_true, s5], by simp (disch := first | (simp only [go_sem, Bool.and_self, eq_self]; done) | omega | (simp only [List.length_cons, List.length_nil]; omega)) only [go_sem, ↓reduceIte, Nat.reduceEqDiff, Nat.reduceAdd, Nat.reduceMul, Nat.reduceSub, Int.reduceToNat, Nat.reduceBEq, List.size_toArray, List.length_cons, List.length_nil, Bool.false_and, Bool.true_and, Bool.or_false, Bool.false_or, Bool.and_false, Bool.and_true, s6], by simp (disch := first | (simp only [go_sem, Bool.and_self, eq_self]; done) | omega | (simp only [List.length_cons, List.length_nil]; omega)) only [go_sem, ↓reduceIte, Nat.reduceEqDiff, Nat.reduceAdd, Nat.reduceMul, Nat.reduceSub, Int.reduceToNat, Nat.reduceBEq, List.size_toArray, List.length_cons, List.length_nil, Bool.false_and, Bool.true_and, Bool.or_false, Bool.false_or, Bool.and_false, Bool.and_true, s21], hk1.trans kz, Tz, fun j hj => by
        rcases Nat.lt_or_ge j i with h3 | h3
        · exact hno j h3
        · rw [show j = i by omega]; exact fun _ => hv⟩
    · have hne := Tl.ne hl0
      simp (disch := first | (simp only [go_sem, Bool.and_self, eq_self]; done) | omega | (simp only [List.length_cons, List.length_nil]; omega)) only [go_sem, ↓reduceIte, Nat.reduceEqDiff, Nat.reduceAdd, Nat.reduceMul, Nat.reduceSub, Int.reduceToNat, Nat.reduceBEq, List.size_toArray, List.length_cons, List.length_nil, Bool.false_and, Bool.true_and, Bool.or_false, Bool.false_or, Bool.and_false, Bool.and_true, s0, s1, s2, s3, s5, s6, s21, s22, s7, bC1, lC1, List.filterMap_cons, List.filterMap_nil, List.contains_nil, Bool.not_false, Bool.or_true, Bool.true_or, hs1, k66, hdiv, n2, hbs, happ, hnl, List.cons_append, List.nil_append, hcall, hne]
      exact ⟨hk1.trans kz, .inr ⟨l, Tl, hl0, el⟩⟩
end Go.Proofs.Ytpkakapbepkfdaa

set_option linter.unusedVariables false
set_option linter.unusedSimpArgs false
set_option maxRecDepth 10000
namespace Go.Proofs.Ytpkakapbepkfdaa
open Go Go.Am

variable {h h' : Hp} {K : AV → Hp → Prop}

theorem Tr.out {tv : AV} {pre : List Int} (T : Tr h tv pre) (t : TypeId) : exportR Try.prog false true [t] h tv = some (LI pre) := by
  obtain ⟨g, e, _⟩ := T.seal_
  have he : exportV Try.prog false true t h [] tv = some (LI pre, g, []) := by
    unfold exportV
    rw [if_neg (by simp)]
    rcases T with rfl | ⟨id, fz, rfl, hid, hb⟩
    · simp only [e, Option.map_some]
    · simp only [e, Option.map_some]
  have hv : exportR Try.prog false true [t] h tv = (exportV Try.prog false true t h [] tv).bind fun r => if isTup r.1 then none else some r.1 := by
    rcases T with rfl | ⟨id, fz, rfl, hid, hb⟩ <;> rfl
  rw [hv, he]; rfl
/-- What Separated knows of a trail. -/
def SepO (p : List (List Int)) (s : List Int) (a b : Int) (r : AV) : Prop := (r = .nil ∧ ∀ l, ¬ Ends p s [a] b l) ∨ ∃ l, r = LI l ∧ 0 < l.length ∧ Ends p s [a] b l
theorem f59_con {p t : List (List Int)} (N : Net p t) {s ls : List Int} (hls : ∀ x : Nat, x < p.length → hasB ls x = lowB p s x) (a b : Int) (ha : 0 ≤ a ∧ a < p.length) :
    ∃ r, Con Try.prog cfg 59 [.agg [LLI p, LLI t, I p.length, mvB s, mvB ls], LI [a], I b] r ∧ SepO p s a b r := by
  have ml : maxLen = 9223372036854775807 := by decide
  have hal : ∀ g : Hp, allocB g (some (.agg [LLI p, LLI t, I p.length, mvB s, mvB ls])) = some (.ptr g.nx 0, g.alloc (.cells false false [LLI p, LLI t, I p.length, mvB s, mvB ls])) := fun g => allocB_agg _ rfl
  have key : ∀ h : Hp, Env74 p t s ls b 1 0 2 h → ∃ v h', Shr Try.prog cfg 74 [LI [a], .ptr 1 0, .ptr 0 0, .ptr 2 0] h v h' ∧ Srch p s [a] b (LI [a]) h v h' := fun h E => f74_shr N hls b 1 0 2 p.length [a] (LI [a]) h (by simp; omega) (by simp) (goodB_one ha) (.inl rfl) E
  refine Con_introE Try.func59 rfl ok59 (Nat.le_of_ble_eq_true rfl) rfl ?_
  simp only [Try.f59, Option.getD_some, initSt3]
  simp (disch := first | (simp only [go_sem, Bool.and_self, eq_self]; done) | omega | (simp only [List.length_cons, List.length_nil]; omega)) only [go_sem, ↓reduceIte, Nat.reduceEqDiff, Nat.reduceAdd, Nat.reduceMul, Nat.reduceSub, Int.reduceToNat, Nat.reduceBEq, List.size_toArray, List.length_cons, List.length_nil, Bool.false_and, Bool.true_and, Bool.or_false, Bool.false_or, Bool.and_false, Bool.and_true, hal]
  obtain ⟨v, hz, hs, kz, hv⟩ := key ((((Hp.empty.alloc (.cells false false [LLI p, LLI t, I p.length, mvB s, mvB ls])).alloc (.cells false false [I b])).alloc (.cells false false [.nilfn])).put 2 (some (.cells false false [.fn 74 [.ptr 1 0, .ptr 0 0, .ptr 2 0]])))
    ⟨by simp [Hp.alloc, Hp.put, Hp.empty], by simp [Hp.alloc, Hp.put, Hp.empty], by simp [Hp.alloc, Hp.put, Hp.empty], by simp [Hp.alloc, Hp.put, Hp.empty], by simp [Hp.alloc, Hp.put, Hp.empty], by simp [Hp.alloc, Hp.put, Hp.empty]⟩
  rw [CallW_shr 74 _ shr74 hs]
  have hkn : cfg.keepNil 59 = true := rfl
  rcases hv with ⟨rfl, hv⟩ | ⟨l, Tl, hl0, el⟩
  · simp (disch := first | (simp only [go_sem, Bool.and_self, eq_self]; done) | omega | (simp only [List.length_cons, List.length_nil]; omega)) only [go_sem, ↓reduceIte, Nat.reduceEqDiff, Nat.reduceAdd, Nat.reduceMul, Nat.reduceSub, Int.reduceToNat, Nat.reduceBEq, List.size_toArray, List.length_cons, List.length_nil, Bool.false_and, Bool.true_and, Bool.or_false, Bool.false_or, Bool.and_false, Bool.and_true, hkn]
    exact ⟨.nil, rfl, .inl ⟨rfl, hv⟩⟩
  · have ho := Tl.out 25
    simp (disch := first | (simp only [go_sem, Bool.and_self, eq_self]; done) | omega | (simp only [List.length_cons, List.length_nil]; omega)) only [go_sem, ↓reduceIte, Nat.reduceEqDiff, Nat.reduceAdd, Nat.reduceMul, Nat.reduceSub, Int.reduceToNat, Nat.reduceBEq, List.size_toArray, List.length_cons, List.length_nil, Bool.false_and, Bool.true_and, Bool.or_false, Bool.false_or, Bool.and_false, Bool.and_true, hkn, ho]
    exact ⟨LI l, rfl, .inr ⟨l, rfl, hl0, el⟩⟩

/-! ### Separated -/
def sepG (p t : List (List Int)) (a b : Int) (s : List Int) : Bool := netB p t && (diffB p.length s && (inB a 0 (p.length - 1) && (inB b 0 (p.length - 1) && (!decide (a = b) && (!hasB s a && !hasB s b)))))
def SepR (p t : List (List Int)) (a b : Int) (s : List Int) (r : AV) : Prop :=
  (sepG p t a b s = false ∧ r = .tup [.bool false, .nil, I 2]) ∨
  (sepG p t a b s = true ∧ ((r = .tup [.bool true, .nil, I 0] ∧ ∀ l, ¬ Ends p s [a] b l) ∨ ∃ l, r = .tup [.bool false, LI l, I 0] ∧ 0 < l.length ∧ Ends p s [a] b l))
theorem f25_con (p t : List (List Int)) (hp : okLL p) (ht : okLL t) (a b : Int) (s : List Int) (hsl : s.length ≤ maxLen) : ∃ r, Con Try.prog cfg 25 [.agg [LLI p, LLI t], I a, I b, LI s] r ∧ SepR p t a b s r := by
  have ml : maxLen = 9223372036854775807 := by decide
  have kn := fun h h' K => k46 (h := h) (h' := h') (K := K) p t hp ht
  have hkn : cfg.keepNil 25 = true := rfl
  have n20 : ¬ (2 : Int) = 0 := by decide
  have x3 : ∀ (h : Hp) (x : Bool) (y : Int), exportR Try.prog false true [4, 25, 30] h (.tup [.bool x, .nil, I y]) = some (.tup [.bool x, .nil, I y]) := fun _ _ _ => rfl
  have x3l : ∀ (h : Hp) (x : Bool) (l : List Int) (y : Int), exportR Try.prog false true [4, 25, 30] h (.tup [.bool x, LI l, I y]) = some (.tup [.bool x, LI l, I y]) := fun h x l y => by
    have e1 : ∀ g u, exportV Try.prog false true 25 g u (LI l) = some (LI l, g, u) := fun g u => by
      unfold exportV
      rw [if_neg (by simp)]
      simp only [sealA_L, Option.map_some]
    have e2 : ∀ t g u (b : Bool), exportV Try.prog false true t g u (.bool b) = some (.bool b, g, u) := fun _ _ _ _ => rfl
    have e3 : ∀ t g u (b : Int), exportV Try.prog false true t g u (I b) = some (I b, g, u) := fun _ _ _ _ => rfl
    simp only [exportR, exportL, e1, e2, e3, Option.bind_some, Option.map_some]
  cases h1 : netB p t with
  | false =>
    refine Con_introE Try.func25 rfl ok25 (Nat.le_of_ble_eq_true rfl) rfl ?_
    simp only [Try.f25, Option.getD_some, initSt4]
    simp (disch := first | (simp only [go_sem, Bool.and_self, eq_self]; done) | omega | (simp only [List.length_cons, List.length_nil]; omega)) only [go_sem, ↓reduceIte, Nat.reduceEqDiff, Nat.reduceAdd, Nat.reduceMul, Nat.reduceSub, Int.reduceToNat, Nat.reduceBEq, List.size_toArray, List.length_cons, List.length_nil, Bool.false_and, Bool.true_and, Bool.or_false, Bool.false_or, Bool.and_false, Bool.and_true, kn, netR_f h1, n20, hkn, x3]
    exact ⟨_, rfl, .inl ⟨by rw [sepG, h1]; rfl, rfl⟩⟩
  | true =>
  have N := Net.of h1
  have hn1 := N.n1
  refine Con_introE Try.func25 rfl ok25 (Nat.le_of_ble_eq_true rfl) rfl ?_
  simp only [Try.f25, Option.getD_some, initSt4]
  simp (disch := first | (simp only [go_sem, Bool.and_self, eq_self]; done) | omega | (simp only [List.length_cons, List.length_nil]; omega)) only [go_sem, ↓reduceIte, Nat.reduceEqDiff, Nat.reduceAdd, Nat.reduceMul, Nat.reduceSub, Int.reduceToNat, Nat.reduceBEq, List.size_toArray, List.length_cons, List.length_nil, Bool.false_and, Bool.true_and, Bool.or_false, Bool.false_or, Bool.and_false, Bool.and_true, kn, netR_t h1]
  refine CallW_shrE shr58 (f58_shr p t N s hsl _) ?_
  rintro v hA ⟨nA, fA, cA⟩
  have a1 := fA 1 (by show 1 < 2; omega)
  simp (disch := first | (simp only [go_sem, Bool.and_self, eq_self]; done) | omega | (simp only [List.length_cons, List.length_nil]; omega)) only [go_sem, ↓reduceIte, Nat.reduceEqDiff, Nat.reduceAdd, Nat.reduceMul, Nat.reduceSub, Int.reduceToNat, Nat.reduceBEq, List.size_toArray, List.length_cons, List.length_nil, Bool.false_and, Bool.true_and, Bool.or_false, Bool.false_or, Bool.and_false, Bool.and_true] at a1 nA cA
  have hstE : ∀ (h : Hp) (id : Nat), storeC h id 0 5 (some (.cells false false [.nil, .nil, I 0, .nilmp, .nilmp])) [.nil, .nil, I 0, .nilmp, .nilmp] = some (.skp, h.put id (some (.cells false false [.nil, .nil, I 0, .nilmp, .nilmp]))) := fun h id => by simp [storeC, setL, AV.isCell]
  have hst : ∀ (h : Hp) (id a b : Nat), storeC h id 0 5 (some (.cells false false [.nil, .nil, I 0, .nilmp, .nilmp])) [LLI p, LLI t, I p.length, .mp a, .mp b] = some (.skp, h.put id (some (.cells false false [LLI p, LLI t, I p.length, .mp a, .mp b]))) := fun h id a b => by simp [storeC, setL, AV.isCell]
  rcases cA with ⟨q1, rfl, ls, q3, q4, q5⟩ | ⟨q1, rfl⟩
  case inr =>
    simp (disch := first | (simp only [go_sem, Bool.and_self, eq_self]; done) | omega | (simp only [List.length_cons, List.length_nil]; omega)) only [go_sem, ↓reduceIte, Nat.reduceEqDiff, Nat.reduceAdd, Nat.reduceMul, Nat.reduceSub, Int.reduceToNat, Nat.reduceBEq, List.size_toArray, List.length_cons, List.length_nil, Bool.false_and, Bool.true_and, Bool.or_false, Bool.false_or, Bool.and_false, Bool.and_true, hstE, n20, hkn, x3]
    exact ⟨_, rfl, .inl ⟨by rw [sepG, q1]; simp, rfl⟩⟩
  have hx := hA.nx
  have m2 : hA.bl 4 = some (.mp false (entB s)) := q3
  have m3 : hA.bl 5 = some (.mp false (entB ls)) := q4
  have u1 : ¬ 1 = hA.nx := by omega
  have u4 : ¬ 4 = hA.nx := by omega
  have u5 : ¬ 5 = hA.nx := by omega
  have v1 : 1 < hA.nx + 1 := by omega
  have v4 : 4 < hA.nx + 1 := by omega
  have v5 : 5 < hA.nx + 1 := by omega
  have v6 : hA.nx < hA.nx + 1 := by omega
  have no : sepG p t a b s = false → ∃ r, some (AV.tup [.bool false, .nil, I 2]) = some r ∧ SepR p t a b s r := fun h => ⟨_, rfl, .inl ⟨h, rfl⟩⟩
  cases h2 : inB a 0 (p.length - 1) with
  | false =>
    simp (disch := first | (simp only [go_sem, Bool.and_self, eq_self]; done) | omega | (simp only [List.length_cons, List.length_nil]; omega)) only [go_sem, ↓reduceIte, Nat.reduceEqDiff, Nat.reduceAdd, Nat.reduceMul, Nat.reduceSub, Int.reduceToNat, Nat.reduceBEq, List.size_toArray, List.length_cons, List.length_nil, Bool.false_and, Bool.true_and, Bool.or_false, Bool.false_or, Bool.and_false, Bool.and_true, a1, hst, u1, u4, u5, v1, v4, v5, v6, h2, n20, hkn, x3]
    exact no (by rw [sepG, h2]; simp)
  | true =>
  cases h3 : inB b 0 (p.length - 1) with
  | false =>
    simp (disch := first | (simp only [go_sem, Bool.and_self, eq_self]; done) | omega | (simp only [List.length_cons, List.length_nil]; omega)) only [go_sem, ↓reduceIte, Nat.reduceEqDiff, Nat.reduceAdd, Nat.reduceMul, Nat.reduceSub, Int.reduceToNat, Nat.reduceBEq, List.size_toArray, List.length_cons, List.length_nil, Bool.false_and, Bool.true_and, Bool.or_false, Bool.false_or, Bool.and_false, Bool.and_true, a1, hst, u1, u4, u5, v1, v4, v5, v6, h2, h3, n20, hkn, x3]
    exact no (by rw [sepG, h3]; simp)
  | true =>
  by_cases h4 : a = b
  · have h4' : decide (a = b) = true := by simp [h4]
    simp (disch := first | (simp only [go_sem, Bool.and_self, eq_self]; done) | omega | (simp only [List.length_cons, List.length_nil]; omega)) only [go_sem, ↓reduceIte, Nat.reduceEqDiff, Nat.reduceAdd, Nat.reduceMul, Nat.reduceSub, Int.reduceToNat, Nat.reduceBEq, List.size_toArray, List.length_cons, List.length_nil, Bool.false_and, Bool.true_and, Bool.or_false, Bool.false_or, Bool.and_false, Bool.and_true, a1, hst, u1, u4, u5, v1, v4, v5, v6, h2, h3, h4', n20, hkn, x3]
    exact no (by rw [sepG, h4']; simp)
  have h4' : decide (a = b) = false := by simp [h4]
  have lka := look_B 4 false s a
  have lkb := look_B 4 false s b
  cases h5 : hasB s a with
  | true =>
    rw [h5] at lka
    simp (disch := first | (simp only [go_sem, Bool.and_self, eq_self]; done) | omega | (simp only [List.length_cons, List.length_nil]; omega)) only [go_sem, ↓reduceIte, Nat.reduceEqDiff, Nat.reduceAdd, Nat.reduceMul, Nat.reduceSub, Int.reduceToNat, Nat.reduceBEq, List.size_toArray, List.length_cons, List.length_nil, Bool.false_and, Bool.true_and, Bool.or_false, Bool.false_or, Bool.and_false, Bool.and_true, a1, m2, hst, u1, u4, u5, v1, v4, v5, v6, h2, h3, h4', lka, n20, hkn, x3]
    exact no (by rw [sepG, h5]; simp)
  | false =>
  rw [h5] at lka
  cases h6 : hasB s b with
  | true =>
    rw [h6] at lkb
    simp (disch := first | (simp only [go_sem, Bool.and_self, eq_self]; done) | omega | (simp only [List.length_cons, List.length_nil]; omega)) only [go_sem, ↓reduceIte, Nat.reduceEqDiff, Nat.reduceAdd, Nat.reduceMul, Nat.reduceSub, Int.reduceToNat, Nat.reduceBEq, List.size_toArray, List.length_cons, List.length_nil, Bool.false_and, Bool.true_and, Bool.or_false, Bool.false_or, Bool.and_false, Bool.and_true, a1, m2, hst, u1, u4, u5, v1, v4, v5, v6, h2, h3, h4', lka, lkb, n20, hkn, x3]
    exact no (by rw [sepG, h6]; simp)
  | false =>
  rw [h6] at lkb
  have hok : sepG p t a b s = true := by rw [sepG, h1, q1, h2, h3, h4', h5, h6]; rfl
  have ha : 0 ≤ a ∧ a < p.length := by simp only [inB, Bool.and_eq_true, decide_eq_true_eq] at h2; omega
  obtain ⟨r, c59, hr⟩ := f59_con N q5 a b ha
  have k59 : ∀ h h' K, ConW Try.prog cfg 59 h (some ([.agg [LLI p, LLI t, I p.length, mvB s, mvB ls], .lst [[I a]], I b], h')) K = K r h' := fun h h' K => by
    rcases hr with ⟨rfl, _⟩ | ⟨l, rfl, _⟩
    · exact ConW_any c59 rfl
    · exact ConW_any c59 rfl
  have hse := fun h ha hb => seal_graph p t p.length 4 5 (by decide) s ls h ha hb
  have hl99 : ∀ u, loadC (some (.struct u)) (some 5) (some ([LLI p, LLI t, I p.length, .mp 4, .mp 5], 0)) = some (.agg [LLI p, LLI t, I p.length, .mp 4, .mp 5]) := fun u => loadC_agg _ 5 rfl _ 0 (by simp)
  have hbs := fun h => bsB_one (P := Try.prog) 3 (I a) (I a) (I 0) h isz3 izero3 rfl rfl rfl rfl rfl rfl rfl
  simp (disch := first | (simp only [go_sem, Bool.and_self, eq_self]; done) | omega | (simp only [List.length_cons, List.length_nil]; omega)) only [go_sem, ↓reduceIte, Nat.reduceEqDiff, Nat.reduceAdd, Nat.reduceMul, Nat.reduceSub, Int.reduceToNat, Nat.reduceBEq, List.size_toArray, List.length_cons, List.length_nil, Bool.false_and, Bool.true_and, Bool.or_false, Bool.false_or, Bool.and_false, Bool.and_true, a1, m2, m3, hst, u1, u4, u5, v1, v4, v5, v6, h2, h3, h4', lka, lkb, hl99, hbs, n20, hkn]
  rw [hse _ (by simp (disch := first | (simp only [go_sem, Bool.and_self, eq_self]; done) | omega | (simp only [List.length_cons, List.length_nil]; omega)) only [go_sem, ↓reduceIte, Nat.reduceEqDiff, Nat.reduceAdd, Nat.reduceMul, Nat.reduceSub, Int.reduceToNat, Nat.reduceBEq, List.size_toArray, List.length_cons, List.length_nil, Bool.false_and, Bool.true_and, Bool.or_false, Bool.false_or, Bool.and_false, Bool.and_true, m2, u4]) (by simp (disch := first | (simp only [go_sem, Bool.and_self, eq_self]; done) | omega | (simp only [List.length_cons, List.length_nil]; omega)) only [go_sem, ↓reduceIte, Nat.reduceEqDiff, Nat.reduceAdd, Nat.reduceMul, Nat.reduceSub, Int.reduceToNat, Nat.reduceBEq, List.size_toArray, List.length_cons, List.length_nil, Bool.false_and, Bool.true_and, Bool.or_false, Bool.false_or, Bool.and_false, Bool.and_true, m3, u5])]
  have hsl1 : ∀ h : Hp, sealA h (.lst [[I a]]) = some (.lst [[I a]], h) := fun h => sealA_L (f := e1 I) [a]
  rcases hr with ⟨rfl, hr⟩ | ⟨l, rfl, h0, hr⟩
  · have hq : binA Try.prog .eql 25 .nil .nil = some (.bool true) := rfl
    simp (disch := first | (simp only [go_sem, Bool.and_self, eq_self]; done) | omega | (simp only [List.length_cons, List.length_nil]; omega)) only [go_sem, ↓reduceIte, Nat.reduceEqDiff, Nat.reduceAdd, Nat.reduceMul, Nat.reduceSub, Int.reduceToNat, Nat.reduceBEq, List.size_toArray, List.length_cons, List.length_nil, Bool.false_and, Bool.true_and, Bool.or_false, Bool.false_or, Bool.and_false, Bool.and_true, hsl1, k59, hq, hkn, x3]
    exact ⟨_, rfl, .inr ⟨hok, .inl ⟨rfl, hr⟩⟩⟩
  · have hq : binA Try.prog .eql 25 (LI l) .nil = some (.bool false) := by
      cases l with
      | nil => simp at h0
      | cons x xs => rfl
    simp (disch := first | (simp only [go_sem, Bool.and_self, eq_self]; done) | omega | (simp only [List.length_cons, List.length_nil]; omega)) only [go_sem, ↓reduceIte, Nat.reduceEqDiff, Nat.reduceAdd, Nat.reduceMul, Nat.reduceSub, Int.reduceToNat, Nat.reduceBEq, List.size_toArray, List.length_cons, List.length_nil, Bool.false_and, Bool.true_and, Bool.or_false, Bool.false_or, Bool.and_false, Bool.and_true, hsl1, k59, hq, hkn, x3l]
    exact ⟨_, rfl, .inr ⟨hok, .inr ⟨l, rfl, h0, hr⟩⟩⟩
end Go.Proofs.Ytpkakapbepkfdaa

set_option linter.unusedVariables false
set_option linter.unusedSimpArgs false
set_option maxRecDepth 10000
namespace Go.Proofs.Ytpkakapbepkfdaa
open Go Go.Am

variable {h h' : Hp} {K : AV → Hp → Prop}

open Classical in
noncomputable def conB (p : List (List Int)) (s pre : List Int) (to : Int) : Bool := decide (∃ l, Ends p s pre to l)
open Classical in
theorem conB_iff {p : List (List Int)} {s pre : List Int} {to : Int} : conB p s pre to = true ↔ ∃ l, Ends p s pre to l := by unfold conB; exact decide_eq_true_iff
theorem conB_no {p : List (List Int)} {s pre : List Int} {to : Int} (h : ∀ l, ¬ Ends p s pre to l) : conB p s pre to = false := by
  rw [Bool.eq_false_iff]; intro h2; obtain ⟨l, e⟩ := conB_iff.1 h2; exact h l e
theorem f27_con {p t : List (List Int)} (N : Net p t) {s : List Int} (hsl : s.length ≤ maxLen) (hds : diffB p.length s = true) (to : Int) : ∀ (k : Nat) (pre : List Int), pre.length + k = p.length + 1 → 0 < pre.length → goodB p s pre = true →
    Con Try.prog cfg 27 [.agg [LLI p, LLI t], LI pre, I to, LI s] (.bool (conB p s pre to)) := by
  intro k
  induction k with
  | zero => intro pre hk h0 hg; have := goodB_len hg; omega
  | succ k ih =>
  intro pre hk h0 hgood
  have ml : maxLen = 9223372036854775807 := by decide
  have hn1 := N.n1
  have hlen10 := goodB_len hgood
  have z1 : (0 : Int) ≤ (pre.length : Int) - 1 := by omega
  have z2 : (pre.length : Int) - 1 < pre.length := by omega
  have z3 : ((pre.length : Int) - 1).toNat = pre.length - 1 := by omega
  by_cases hto : nth pre (pre.length - 1) = to
  · have hto' : decide (nth pre (pre.length - 1) = to) = true := by simp [hto]
    have hr : conB p s pre to = true := conB_iff.2 ⟨pre, List.prefix_refl _, hgood, hto⟩
    refine Con_intro Try.func27 rfl ok27 (Nat.le_of_ble_eq_true rfl) rfl ?_
    simp only [Try.f27, Option.getD_some, initSt4]
    simp (disch := first | (simp only [go_sem, Bool.and_self, eq_self]; done) | omega | (simp only [List.length_cons, List.length_nil]; omega)) only [go_sem, ↓reduceIte, Nat.reduceEqDiff, Nat.reduceAdd, Nat.reduceMul, Nat.reduceSub, Int.reduceToNat, Nat.reduceBEq, List.size_toArray, List.length_cons, List.length_nil, Bool.false_and, Bool.true_and, Bool.or_false, Bool.false_or, Bool.and_false, Bool.and_true, z1, z2, z3, hto', hr]
  have hto' : decide (nth pre (pre.length - 1) = to) = false := by simp [hto]
  refine Con_intro Try.func27 rfl ok27 (Nat.le_of_ble_eq_true rfl) rfl ?_
  simp only [Try.f27, Option.getD_some, initSt4]
  simp (disch := first | (simp only [go_sem, Bool.and_self, eq_self]; done) | omega | (simp only [List.length_cons, List.length_nil]; omega)) only [go_sem, ↓reduceIte, Nat.reduceEqDiff, Nat.reduceAdd, Nat.reduceMul, Nat.reduceSub, Int.reduceToNat, Nat.reduceBEq, List.size_toArray, List.length_cons, List.length_nil, Bool.false_and, Bool.true_and, Bool.or_false, Bool.false_or, Bool.and_false, Bool.and_true, z1, z2, z3, hto']
  refine WP_for 10 p.length (fun i st h => st 1 = LI pre ∧ st 2 = I to ∧ st 3 = LI s ∧ st 4 = .ptr 0 0 ∧ st 8 = .bool false ∧ 1 ≤ h.nx ∧ h.bl 0 = some (.cells false false [LLI p, LLI t]) ∧ ∀ j : Nat, j < i → goB p s pre j = true → ∀ l, ¬ Ends p s (pre ++ [(j : Int)]) to l) (by simp (disch := first | (simp only [go_sem, Bool.and_self, eq_self]; done) | omega | (simp only [List.length_cons, List.length_nil]; omega)) only [go_sem, ↓reduceIte, Nat.reduceEqDiff, Nat.reduceAdd, Nat.reduceMul, Nat.reduceSub, Int.reduceToNat, Nat.reduceBEq, List.size_toArray, List.length_cons, List.length_nil, Bool.false_and, Bool.true_and, Bool.or_false, Bool.false_or, Bool.and_false, Bool.and_true]) ⟨by simp (disch := first | (simp only [go_sem, Bool.and_self, eq_self]; done) | omega | (simp only [List.length_cons, List.length_nil]; omega)) only [go_sem, ↓reduceIte, Nat.reduceEqDiff, Nat.reduceAdd, Nat.reduceMul, Nat.reduceSub, Int.reduceToNat, Nat.reduceBEq, List.size_toArray, List.length_cons, List.length_nil, Bool.false_and, Bool.true_and, Bool.or_false, Bool.false_or, Bool.and_false, Bool.and_true], by simp (disch := first | (simp only [go_sem, Bool.and_self, eq_self]; done) | omega | (simp only [List.length_cons, List.length_nil]; omega)) only [go_sem, ↓reduceIte, Nat.reduceEqDiff, Nat.reduceAdd, Nat.reduceMul, Nat.reduceSub, Int.reduceToNat, Nat.reduceBEq, List.size_toArray, List.length_cons, List.length_nil, Bool.false_and, Bool.true_and, Bool.or_false, Bool.false_or, Bool.and_false, Bool.and_true], by simp (disch := first | (simp only [go_sem, Bool.and_self, eq_self]; done) | omega | (simp only [List.length_cons, List.length_nil]; omega)) only [go_sem, ↓reduceIte, Nat.reduceEqDiff, Nat.reduceAdd, Nat.reduceMul, Nat.reduceSub, Int.reduceToNat, Nat.reduceBEq, List.size_toArray, List.length_cons, List.length_nil, Bool.false_and, Bool.true_and, Bool.or_false, Bool.false_or, Bool.and_false, Bool.and_true], by simp (disch := first | (simp only [go_sem, Bool.and_self, eq_self]; done) | omega | (simp only [List.length_cons, List.length_nil]; omega)) only [go_sem, ↓reduceIte, Nat.reduceEqDiff, Nat.reduceAdd, Nat.reduceMul, Nat.reduceSub, Int.reduceToNat, Nat.reduceBEq, List.size_toArray, List.length_cons, List.length_nil, Bool.false_and, Bool.true_and, Bool.or_false, Bool.false_or, Bool.and_false, Bool.and_true], by simp (disch := first | (simp only [go_sem, Bool.and_self, eq_self]; done) | omega | (simp only [List.length_cons, List.length_nil]; omega)) only [go_sem, ↓reduceIte, Nat.reduceEqDiff, Nat.reduceAdd, Nat.reduceMul, Nat.reduceSub, Int.reduceToNat, Nat.reduceBEq, List.size_toArray, List.length_cons, List.length_nil, Bool.false_and, Bool.true_and, Bool.or_false, Bool.false_or, Bool.and_false, Bool.and_true], by simp (disch := first | (simp only [go_sem, Bool.and_self, eq_self]; done) | omega | (simp only [List.length_cons, List.length_nil]; omega)) only [go_sem, ↓reduceIte, Nat.reduceEqDiff, Nat.reduceAdd, Nat.reduceMul, Nat.reduceSub, Int.reduceToNat, Nat.reduceBEq, List.size_toArray, List.length_cons, List.length_nil, Bool.false_and, Bool.true_and, Bool.or_false, Bool.false_or, Bool.and_false, Bool.and_true]; decide, by simp (disch := first | (simp only [go_sem, Bool.and_self, eq_self]; done) | omega | (simp only [List.length_cons, List.length_nil]; omega)) only [go_sem, ↓reduceIte, Nat.reduceEqDiff, Nat.reduceAdd, Nat.reduceMul, Nat.reduceSub, Int.reduceToNat, Nat.reduceBEq, List.size_toArray, List.length_cons, List.length_nil, Bool.false_and, Bool.true_and, Bool.or_false, Bool.false_or, Bool.and_false, Bool.and_true], by omega⟩ ?_
  rintro i st h hi s10 ⟨s1, s2, s3, s4, s8, hnx, b0, hno⟩
  have l0 : 0 < h.nx := by omega
  by_cases hlt : i < p.length
  case neg =>
    have hr : conB p s pre to = false := conB_no fun l e => by
      obtain ⟨v, hv, h1, h2⟩ := e.go hgood h0 hto
      exact hno v (by omega) h1 l h2
    simp (disch := first | (simp only [go_sem, Bool.and_self, eq_self]; done) | omega | (simp only [List.length_cons, List.length_nil]; omega)) only [go_sem, ↓reduceIte, Nat.reduceEqDiff, Nat.reduceAdd, Nat.reduceMul, Nat.reduceSub, Int.reduceToNat, Nat.reduceBEq, List.size_toArray, List.length_cons, List.length_nil, Bool.false_and, Bool.true_and, Bool.or_false, Bool.false_or, Bool.and_false, Bool.and_true, s1, s2, s3, s4, s8, s10, hlt, b0, hr]
  have hii : 0 ≤ (i : Int) ∧ (i : Int) < p.length := by omega
  have hlen1 : (pre ++ [(i : Int)]).length = pre.length + 1 := by simp
  have skip : goB p s pre i = false → ∀ j : Nat, j < i + 1 → goB p s pre j = true → ∀ l, ¬ Ends p s (pre ++ [(j : Int)]) to l := fun h j hj => by
    rcases Nat.lt_or_ge j i with h3 | h3
    · exact hno j h3
    · rw [show j = i by omega, h]; intro h; cases h
  have k60' := fun h h' K => k60 (h := h) (h' := h') (K := K) pre i (by omega)
  have k28' := fun h h' K => ConW_num (h := h) (h' := h') (K := K) (f28_con p t N (pre ++ [(i : Int)]) (by omega)) rfl
  have happ0 := app_nil (P := Try.prog) (h := h) (f := e1 I) 3 8 (I 0) (LI pre) pre isz3 ibytes3 izero3 rfl (cellsOf_L _ _) (lenA_L _ _) (by omega) (by omega)
  obtain ⟨g3, happ, g3n, g3b, g3o⟩ := app_clone h pre i (by omega)
  have g30 := (g3o 0 l0).trans b0
  have g31 : 1 ≤ g3.nx := by omega
  have hbs := fun h => bsB_one (P := Try.prog) 3 (I i) (I i) (I 0) h isz3 izero3 rfl rfl rfl rfl rfl rfl rfl
  have hsb : sealA g3 (.sl (h.nx + 1) 0 (pre ++ [(i : Int)]).length 1) = some (LI (pre ++ [(i : Int)]), g3.put (h.nx + 1) (some (.cells true true ((pre ++ [(i : Int)]).flatMap (e1 I))))) := by
    rw [sealA_sl, g3b, sealSl_own _ _ _ _ _ rfl]
  have gg := goodB_snoc (v := (i : Int)) hgood h0
  cases h5 : hasB pre i with
  | true =>
    have q := skip (by rw [goB, h5]; simp)
    simp (disch := first | (simp only [go_sem, Bool.and_self, eq_self]; done) | omega | (simp only [List.length_cons, List.length_nil]; omega)) only [go_sem, ↓reduceIte, Nat.reduceEqDiff, Nat.reduceAdd, Nat.reduceMul, Nat.reduceSub, Int.reduceToNat, Nat.reduceBEq, List.size_toArray, List.length_cons, List.length_nil, Bool.false_and, Bool.true_and, Bool.or_false, Bool.false_or, Bool.and_false, Bool.and_true, s1, s2, s3, s4, s8, s10, hlt, b0, happ0, happ, hbs, hsb, k60', h5]
    rw [ForK_normal]
    exact ⟨hlt, by simp (disch := first | (simp only [go_sem, Bool.and_self, eq_self]; done) | omega | (simp only [List.length_cons, List.length_nil]; omega)) only [go_sem, ↓reduceIte, Nat.reduceEqDiff, Nat.reduceAdd, Nat.reduceMul, Nat.reduceSub, Int.reduceToNat, Nat.reduceBEq, List.size_toArray, List.length_cons, List.length_nil, Bool.false_and, Bool.true_and, Bool.or_false, Bool.false_or, Bool.and_false, Bool.and_true, s10], by simp (disch := first | (simp only [go_sem, Bool.and_self, eq_self]; done) | omega | (simp only [List.length_cons, List.length_nil]; omega)) only [go_sem, ↓reduceIte, Nat.reduceEqDiff, Nat.reduceAdd, Nat.reduceMul, Nat.reduceSub, Int.reduceToNat, Nat.reduceBEq, List.size_toArray, List.length_cons, List.length_nil, Bool.false_and, Bool.true_and, Bool.or_false, Bool.false_or, Bool.and_false, Bool.and_true, s1], by simp (disch := first | (simp only [go_sem, Bool.and_self, eq_self]; done) | omega | (simp only [List.length_cons, List.length_nil]; omega)) only [go_sem, ↓reduceIte, Nat.reduceEqDiff, Nat.reduceAdd, Nat.reduceMul, Nat.reduceSub, Int.reduceToNat, Nat.reduceBEq, List.size_toArray, List.length_cons, List.length_nil, Bool.false_and, Bool.true_and, Bool.or_false, Bool.false_or, Bool.and_false, Bool.and_true, s2], by simp (disch := first | (simp only [go_sem, Bool.and_self, eq_self]; done) | omega | (simp only [List.length_cons, List.length_nil]; omega)) only [go_sem, ↓reduceIte, Nat.reduceEqDiff, Nat.reduceAdd, Nat.reduceMul, Nat.reduceSub, Int.reduceToNat, Nat.reduceBEq, List.size_toArray, List.length_cons, List.length_nil, Bool.false_and, Bool.true_and, Bool.or_false, Bool.false_or, Bool.and_false, Bool.and_true, s3], by simp (disch := first | (simp only [go_sem, Bool.and_self, eq_self]; done) | omega | (simp only [List.length_cons, List.length_nil]; omega)) only [go_sem, ↓reduceIte, Nat.reduceEqDiff, Nat.reduceAdd, Nat.reduceMul, Nat.reduceSub, Int.reduceToNat, Nat.reduceBEq, List.size_toArray, List.length_cons, List.length_nil, Bool.false_and, Bool.true_and, Bool.or_false, Bool.false_or, Bool.and_false, Bool.and_true, s4], by simp (disch := first | (simp only [go_sem, Bool.and_self, eq_self]; done) | omega | (simp only [List.length_cons, List.length_nil]; omega)) only [go_sem, ↓reduceIte, Nat.reduceEqDiff, Nat.reduceAdd, Nat.reduceMul, Nat.reduceSub, Int.reduceToNat, Nat.reduceBEq, List.size_toArray, List.length_cons, List.length_nil, Bool.false_and, Bool.true_and, Bool.or_false, Bool.false_or, Bool.and_false, Bool.and_true, s8], g31, g30, q⟩
  | false =>
  cases h6 : tB p (pre ++ [(i : Int)]) with
  | false =>
    have q := skip (by
      rw [Bool.eq_false_iff]; intro hg
      have := gg.2 ⟨hii, hg⟩
      rw [goodB, h6] at this; cases this)
    simp (disch := first | (simp only [go_sem, Bool.and_self, eq_self]; done) | omega | (simp only [List.length_cons, List.length_nil]; omega)) only [go_sem, ↓reduceIte, Nat.reduceEqDiff, Nat.reduceAdd, Nat.reduceMul, Nat.reduceSub, Int.reduceToNat, Nat.reduceBEq, List.size_toArray, List.length_cons, List.length_nil, Bool.false_and, Bool.true_and, Bool.or_false, Bool.false_or, Bool.and_false, Bool.and_true, s1, s2, s3, s4, s8, s10, hlt, b0, happ0, happ, hbs, hsb, k60', k28', g30, h5, h6]
    rw [ForK_normal]
    exact ⟨hlt, by simp (disch := first | (simp only [go_sem, Bool.and_self, eq_self]; done) | omega | (simp only [List.length_cons, List.length_nil]; omega)) only [go_sem, ↓reduceIte, Nat.reduceEqDiff, Nat.reduceAdd, Nat.reduceMul, Nat.reduceSub, Int.reduceToNat, Nat.reduceBEq, List.size_toArray, List.length_cons, List.length_nil, Bool.false_and, Bool.true_and, Bool.or_false, Bool.false_or, Bool.and_false, Bool.and_true, s10], by simp (disch := first | (simp only [go_sem, Bool.and_self, eq_self]; done) | omega | (simp only [List.length_cons, List.length_nil]; omega)) only [go_sem, ↓reduceIte, Nat.reduceEqDiff, Nat.reduceAdd, Nat.reduceMul, Nat.reduceSub, Int.reduceToNat, Nat.reduceBEq, List.size_toArray, List.length_cons, List.length_nil, Bool.false_and, Bool.true_and, Bool.or_false, Bool.false_or, Bool.and_false, Bool.and_true, s1], by simp (disch := first | (simp only [go_sem, Bool.and_self, eq_self]; done) | omega | (simp only [List.length_cons, List.length_nil]; omega)) only [go_sem, ↓reduceIte, Nat.reduceEqDiff, Nat.reduceAdd, Nat.reduceMul, Nat.reduceSub, Int.reduceToNat, Nat.reduceBEq, List.size_toArray, List.length_cons, List.length_nil, Bool.false_and, Bool.true_and, Bool.or_false, Bool.false_or, Bool.and_false, Bool.and_true, s2], by simp (disch := first | (simp only [go_sem, Bool.and_self, eq_self]; done) | omega | (simp only [List.length_cons, List.length_nil]; omega)) only [go_sem, ↓reduceIte, Nat.reduceEqDiff, Nat.reduceAdd, Nat.reduceMul, Nat.reduceSub, Int.reduceToNat, Nat.reduceBEq, List.size_toArray, List.length_cons, List.length_nil, Bool.false_and, Bool.true_and, Bool.or_false, Bool.false_or, Bool.and_false, Bool.and_true, s3], by simp (disch := first | (simp only [go_sem, Bool.and_self, eq_self]; done) | omega | (simp only [List.length_cons, List.length_nil]; omega)) only [go_sem, ↓reduceIte, Nat.reduceEqDiff, Nat.reduceAdd, Nat.reduceMul, Nat.reduceSub, Int.reduceToNat, Nat.reduceBEq, List.size_toArray, List.length_cons, List.length_nil, Bool.false_and, Bool.true_and, Bool.or_false, Bool.false_or, Bool.and_false, Bool.and_true, s4], by simp (disch := first | (simp only [go_sem, Bool.and_self, eq_self]; done) | omega | (simp only [List.length_cons, List.length_nil]; omega)) only [go_sem, ↓reduceIte, Nat.reduceEqDiff, Nat.reduceAdd, Nat.reduceMul, Nat.reduceSub, Int.reduceToNat, Nat.reduceBEq, List.size_toArray, List.length_cons, List.length_nil, Bool.false_and, Bool.true_and, Bool.or_false, Bool.false_or, Bool.and_false, Bool.and_true, s8], g31, g30, q⟩
  | true =>
  have k29' := fun h h' K => ConW_num (h := h) (h' := h') (K := K) (f29_con p t N (pre ++ [(i : Int)]) s (by omega) hsl (tB_diff h6) hds) rfl
  cases h7 : actB p s (pre ++ [(i : Int)]) with
  | false =>
    have q := skip (by
      rw [Bool.eq_false_iff]; intro hg
      have := gg.2 ⟨hii, hg⟩
      rw [goodB, h7, Bool.and_false] at this; cases this)
    simp (disch := first | (simp only [go_sem, Bool.and_self, eq_self]; done) | omega | (simp only [List.length_cons, List.length_nil]; omega)) only [go_sem, ↓reduceIte, Nat.reduceEqDiff, Nat.reduceAdd, Nat.reduceMul, Nat.reduceSub, Int.reduceToNat, Nat.reduceBEq, List.size_toArray, List.length_cons, List.length_nil, Bool.false_and, Bool.true_and, Bool.or_false, Bool.false_or, Bool.and_false, Bool.and_true, s1, s2, s3, s4, s8, s10, hlt, b0, happ0, happ, hbs, hsb, k60', k28', k29', g30, h5, h6, h7]
    rw [ForK_normal]
    exact ⟨hlt, by simp (disch := first | (simp only [go_sem, Bool.and_self, eq_self]; done) | omega | (simp only [List.length_cons, List.length_nil]; omega)) only [go_sem, ↓reduceIte, Nat.reduceEqDiff, Nat.reduceAdd, Nat.reduceMul, Nat.reduceSub, Int.reduceToNat, Nat.reduceBEq, List.size_toArray, List.length_cons, List.length_nil, Bool.false_and, Bool.true_and, Bool.or_false, Bool.false_or, Bool.and_false, Bool.and_true, s10], by simp (disch := first | (simp only [go_sem, Bool.and_self, eq_self]; done) | omega | (simp only [List.length_cons, List.length_nil]; omega)) only [go_sem, ↓reduceIte, Nat.reduceEqDiff, Nat.reduceAdd, Nat.reduceMul, Nat.reduceSub, Int.reduceToNat, Nat.reduceBEq, List.size_toArray, List.length_cons, List.length_nil, Bool.false_and, Bool.true_and, Bool.or_false, Bool.false_or, Bool.and_false, Bool.and_true, s1], by simp (disch := first | (simp only [go_sem, Bool.and_self, eq_self]; done) | omega | (simp only [List.length_cons, List.length_nil]; omega)) only [go_sem, ↓reduceIte, Nat.reduceEqDiff, Nat.reduceAdd, Nat.reduceMul, Nat.reduceSub, Int.reduceToNat, Nat.reduceBEq, List.size_toArray, List.length_cons, List.length_nil, Bool.false_and, Bool.true_and, Bool.or_false, Bool.false_or, Bool.and_false, Bool.and_true, s2], by simp (disch := first | (simp only [go_sem, Bool.and_self, eq_self]; done) | omega | (simp only [List.length_cons, List.length_nil]; omega)) only [go_sem, ↓reduceIte, Nat.reduceEqDiff, Nat.reduceAdd, Nat.reduceMul, Nat.reduceSub, Int.reduceToNat, Nat.reduceBEq, List.size_toArray, List.length_cons, List.length_nil, Bool.false_and, Bool.true_and, Bool.or_false, Bool.false_or, Bool.and_false, Bool.and_true, s3], by simp (disch := first | (simp only [go_sem, Bool.and_self, eq_self]; done) | omega | (simp only [List.length_cons, List.length_nil]; omega)) only [go_sem, ↓reduceIte, Nat.reduceEqDiff, Nat.reduceAdd, Nat.reduceMul, Nat.reduceSub, Int.reduceToNat, Nat.reduceBEq, List.size_toArray, List.length_cons, List.length_nil, Bool.false_and, Bool.true_and, Bool.or_false, Bool.false_or, Bool.and_false, Bool.and_true, s4], by simp (disch := first | (simp only [go_sem, Bool.and_self, eq_self]; done) | omega | (simp only [List.length_cons, List.length_nil]; omega)) only [go_sem, ↓reduceIte, Nat.reduceEqDiff, Nat.reduceAdd, Nat.reduceMul, Nat.reduceSub, Int.reduceToNat, Nat.reduceBEq, List.size_toArray, List.length_cons, List.length_nil, Bool.false_and, Bool.true_and, Bool.or_false, Bool.false_or, Bool.and_false, Bool.and_true, s8], g31, g30, q⟩
  | true =>
  have hg : goodB p s (pre ++ [(i : Int)]) = true := by rw [goodB, h6, h7]; rfl
  have k27 := fun h h' K => ConW_num (h := h) (h' := h') (K := K) (ih (pre ++ [(i : Int)]) (by omega) (by omega) hg) rfl
  cases h8 : conB p s (pre ++ [(i : Int)]) to with
  | false =>
    simp (disch := first | (simp only [go_sem, Bool.and_self, eq_self]; done) | omega | (simp only [List.length_cons, List.length_nil]; omega)) only [go_sem, ↓reduceIte, Nat.reduceEqDiff, Nat.reduceAdd, Nat.reduceMul, Nat.reduceSub, Int.reduceToNat, Nat.reduceBEq, List.size_toArray, List.length_cons, List.length_nil, Bool.false_and, Bool.true_and, Bool.or_false, Bool.false_or, Bool.and_false, Bool.and_true, s1, s2, s3, s4, s8, s10, hlt, b0, happ0, happ, hbs, hsb, k60', k28', k29', k27, g30, h5, h6, h7, h8]
    rw [ForK_normal]
    exact ⟨hlt, by simp (disch := first | (simp only [go_sem, Bool.and_self, eq_self]; done) | omega | (simp only [List.length_cons, List.length_nil]; omega)) only [go_sem, ↓reduceIte, Nat.reduceEqDiff, Nat.reduceAdd, Nat.reduceMul, Nat.reduceSub, Int.reduceToNat, Nat.reduceBEq, List.size_toArray, List.length_cons, List.length_nil, Bool.false_and, Bool.true_and, Bool.or_false, Bool.false_or, Bool.and_false, Bool.and_true, s10], by simp (disch := first | (simp only [go_sem, Bool.and_self, eq_self]; done) | omega | (simp only [List.length_cons, List.length_nil]; omega)) only [go_sem, ↓reduceIte, Nat.reduceEqDiff, Nat.reduceAdd, Nat.reduceMul, Nat.reduceSub, Int.reduceToNat, Nat.reduceBEq, List.size_toArray, List.length_cons, List.length_nil, Bool.false_and, Bool.true_and, Bool.or_false, Bool.false_or, Bool.and_false, Bool.and_true, s1], by simp (disch := first | (simp only [go_sem, Bool.and_self, eq_self]; done) | omega | (simp only [List.length_cons, List.length_nil]; omega)) only [go_sem, ↓reduceIte, Nat.reduceEqDiff, Nat.reduceAdd, Nat.reduceMul, Nat.reduceSub, Int.reduceToNat, Nat.reduceBEq, List.size_toArray, List.length_cons, List.length_nil, Bool.false_and, Bool.true_and, Bool.or_false, Bool.false_or, Bool.and_false, Bool.and_true, s2], by simp (disch := first | (simp only [go_sem, Bool.and_self, eq_self]; done) | omega | (simp only [List.length_cons, List.length_nil]; omega)) only [go_sem, ↓reduceIte, Nat.reduceEqDiff, Nat.reduceAdd, Nat.reduceMul, Nat.reduceSub, Int.reduceToNat, Nat.reduceBEq, List.size_toArray, List.length_cons, List.length_nil, Bool.false_and, Bool.true_and, Bool.or_false, Bool.false_or, Bool.and_false, Bool.and_true, s3], by simp (disch := first | (simp only [go_sem, Bool.and_self, eq_self]; done) | omega | (simp only [List.length_cons, List.length_nil]; omega)) only [go_sem, ↓reduceIte, Nat.reduceEqDiff, Nat.reduceAdd, Nat.reduceMul, Nat.reduceSub, Int.reduceToNat, Nat.reduceBEq, List.size_toArray, List.length_cons, List.length_nil, Bool.false_and, Bool.true_and, Bool.or_false, Bool.false_or, Bool.and_false, Bool.and_true, s4], by simp (disch := first | (simp only [go_sem, Bool.and_self, eq_self]; done) | omega | (simp only [List.length_cons, List.length_nil]; omega)) only [go_sem, ↓reduceIte, Nat.reduceEqDiff, Nat.reduceAdd, Nat.reduceMul, Nat.reduceSub, Int.reduceToNat, Nat.reduceBEq, List.size_toArray, List.length_cons, List.length_nil, Bool.false_and, Bool.true_and, Bool.or_false, Bool.false_or, Bool.and_false, Bool.and_true, s8], g31, g30, fun j hj => by
      rcases Nat.lt_or_ge j i with h3 | h3
      · exact hno j h3
      · rw [show j = i by omega]
        intro _ l e
        rw [conB_iff.2 ⟨l, e⟩] at h8; cases h8⟩
  | true =>
    have hr : conB p s pre to = true := by
      obtain ⟨l, e⟩ := conB_iff.1 h8
      exact conB_iff.2 ⟨l, e.back⟩
    simp (disch := first | (simp only [go_sem, Bool.and_self, eq_self]; done) | omega | (simp only [List.length_cons, List.length_nil]; omega)) only [go_sem, ↓reduceIte, Nat.reduceEqDiff, Nat.reduceAdd, Nat.reduceMul, Nat.reduceSub, Int.reduceToNat, Nat.reduceBEq, List.size_toArray, List.length_cons, List.length_nil, Bool.false_and, Bool.true_and, Bool.or_false, Bool.false_or, Bool.and_false, Bool.and_true, s1, s2, s3, s4, s8, s10, hlt, b0, happ0, happ, hbs, hsb, k60', k28', k29', k27, g30, h5, h6, h7, h8, hr]
end Go.Proofs.Ytpkakapbepkfdaa
