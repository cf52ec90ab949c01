/-
  Lists compared; valid fractions; Best, Check.
  The reference's tests of values; Best, Check.
  'StopBest' answers true.
  What the values of a best rule obey, as fractions and as whole numbers over a common denominator.
  'StopMajorant' answers true.
-/
import Derived.Test.YtgamcclfdkpcgaaL2M3
import Derived.Test.YtgamcclfdkpcgaaL2M1
set_option linter.unusedVariables false
set_option linter.unusedSimpArgs false
set_option maxRecDepth 10000
namespace Go.Proofs.Ytgamcclfdkpcgaa
open Go Go.Am

variable {h h' : Hp} {K : AV → Hp → Prop}

theorem f33_con (a b : List (Int × Int)) (ha : a.length ≤ maxLen) (hb : b.length ≤ maxLen) : Con Try.prog cfg 33 [LP a, LP b] (.bool (decide (a = b))) := by
  have ml : maxLen = 9223372036854775807 := by decide
  by_cases hl : a.length = b.length
  case neg =>
    have hr : decide (a = b) = false := decide_eq_false fun h => hl (by rw [h])
    rw [hr]
    refine Con_intro Try.func33 rfl ok33 (Nat.le_of_ble_eq_true rfl) rfl ?_
    simp only [Try.f33, Option.getD_some, initSt2]
    simp (disch := first | (simp only [go_sem, gb0, eq_self]; done) | omega | (simp only [gl1, gl2]; omega)) only [go_sem, ↓reduceIte, Nat.reduceEqDiff, Nat.reduceAdd, Nat.reduceMul, Nat.reduceSub, Int.reduceToNat, Nat.reduceBEq, hl]
  have hl' : (a.length : Int) = b.length := by omega
  refine Con_intro Try.func33 rfl ok33 (Nat.le_of_ble_eq_true rfl) rfl ?_
  simp only [Try.f33, Option.getD_some, initSt2]
  simp (disch := first | (simp only [go_sem, gb0, eq_self]; done) | omega | (simp only [gl1, gl2]; omega)) only [go_sem, ↓reduceIte, Nat.reduceEqDiff, Nat.reduceAdd, Nat.reduceMul, Nat.reduceSub, Int.reduceToNat, Nat.reduceBEq, hl, eq_self, decide_true, Bool.not_true]
  refine WP_for 5 b.length (fun j st h => st 0 = LP a ∧ st 1 = LP b ∧ ∀ k, k < j → nth a k = nth b k) (by simp (disch := first | (simp only [go_sem, gb0, eq_self]; done) | omega | (simp only [gl1, gl2]; omega)) only [go_sem, ↓reduceIte, Nat.reduceEqDiff, Nat.reduceAdd, Nat.reduceMul, Nat.reduceSub, Int.reduceToNat, Nat.reduceBEq]) ⟨by simp (disch := first | (simp only [go_sem, gb0, eq_self]; done) | omega | (simp only [gl1, gl2]; omega)) only [go_sem, ↓reduceIte, Nat.reduceEqDiff, Nat.reduceAdd, Nat.reduceMul, Nat.reduceSub, Int.reduceToNat, Nat.reduceBEq], by simp (disch := first | (simp only [go_sem, gb0, eq_self]; done) | omega | (simp only [gl1, gl2]; omega)) only [go_sem, ↓reduceIte, Nat.reduceEqDiff, Nat.reduceAdd, Nat.reduceMul, Nat.reduceSub, Int.reduceToNat, Nat.reduceBEq], by omega⟩ ?_
  rintro j st h hj s5 ⟨s0, s1, hall⟩
  by_cases hlt : j < b.length
  case neg =>
    have hr : decide (a = b) = true := decide_eq_true (list_ext_nth hl fun k hk => hall k (by omega))
    have hlt' : ¬ j < a.length := by omega
    simp (disch := first | (simp only [go_sem, gb0, eq_self]; done) | omega | (simp only [gl1, gl2]; omega)) only [go_sem, ↓reduceIte, Nat.reduceEqDiff, Nat.reduceAdd, Nat.reduceMul, Nat.reduceSub, Int.reduceToNat, Nat.reduceBEq, s0, s1, s5, hlt, hlt', hr]
  have hla : j < a.length := by omega
  have hla' : (j : Int) < a.length := by omega
  by_cases hc : nth a j = nth b j
  · have e1 : (nth a j).1 = (nth b j).1 := by rw [hc]
    have e2 : (nth a j).2 = (nth b j).2 := by rw [hc]
    simp (disch := first | (simp only [go_sem, gb0, eq_self]; done) | omega | (simp only [gl1, gl2]; omega)) only [go_sem, ↓reduceIte, Nat.reduceEqDiff, Nat.reduceAdd, Nat.reduceMul, Nat.reduceSub, Int.reduceToNat, Nat.reduceBEq, s0, s1, s5, hlt, hla, hla', e1, e2, eq_self, decide_true, Bool.not_true]
    rw [ForK_normal]
    refine ⟨hlt, by simp (disch := first | (simp only [go_sem, gb0, eq_self]; done) | omega | (simp only [gl1, gl2]; omega)) only [go_sem, ↓reduceIte, Nat.reduceEqDiff, Nat.reduceAdd, Nat.reduceMul, Nat.reduceSub, Int.reduceToNat, Nat.reduceBEq, s5], by simp (disch := first | (simp only [go_sem, gb0, eq_self]; done) | omega | (simp only [gl1, gl2]; omega)) only [go_sem, ↓reduceIte, Nat.reduceEqDiff, Nat.reduceAdd, Nat.reduceMul, Nat.reduceSub, Int.reduceToNat, Nat.reduceBEq, s0], by simp (disch := first | (simp only [go_sem, gb0, eq_self]; done) | omega | (simp only [gl1, gl2]; omega)) only [go_sem, ↓reduceIte, Nat.reduceEqDiff, Nat.reduceAdd, Nat.reduceMul, Nat.reduceSub, Int.reduceToNat, Nat.reduceBEq, s1], fun k hk => ?_⟩
    by_cases hkj : k = j
    · subst hkj; exact hc
    · exact hall k (by omega)
  · have hr : decide (a = b) = false := decide_eq_false fun h => hc (by rw [h])
    have hd : (decide ((nth a j).1 = (nth b j).1) && decide ((nth a j).2 = (nth b j).2)) = false := by
      rw [Bool.and_eq_false_iff, decide_eq_false_iff_not, decide_eq_false_iff_not]
      by_cases h1 : (nth a j).1 = (nth b j).1
      · right; exact fun h2 => hc (Prod.ext h1 h2)
      · exact .inl h1
    simp (disch := first | (simp only [go_sem, gb0, eq_self]; done) | omega | (simp only [gl1, gl2]; omega)) only [go_sem, ↓reduceIte, Nat.reduceEqDiff, Nat.reduceAdd, Nat.reduceMul, Nat.reduceSub, Int.reduceToNat, Nat.reduceBEq, s0, s1, s5, hlt, hla, hla', hd, hr]
theorem f66_con (a b : List (Int × Int)) (ha : a.length ≤ maxLen) (hb : b.length ≤ maxLen) : Con Try.prog cfg 66 [LP a, LP b] (.bool (decide (a = b))) := by
  have ml : maxLen = 9223372036854775807 := by decide
  by_cases hl : a.length = b.length
  case neg =>
    have hr : decide (a = b) = false := decide_eq_false fun h => hl (by rw [h])
    rw [hr]
    refine Con_intro Try.func66 rfl ok66 (Nat.le_of_ble_eq_true rfl) rfl ?_
    simp only [Try.f66, Option.getD_some, initSt2]
    simp (disch := first | (simp only [go_sem, gb0, eq_self]; done) | omega | (simp only [gl1, gl2]; omega)) only [go_sem, ↓reduceIte, Nat.reduceEqDiff, Nat.reduceAdd, Nat.reduceMul, Nat.reduceSub, Int.reduceToNat, Nat.reduceBEq, hl]
  have hl' : (a.length : Int) = b.length := by omega
  refine Con_intro Try.func66 rfl ok66 (Nat.le_of_ble_eq_true rfl) rfl ?_
  simp only [Try.f66, Option.getD_some, initSt2]
  simp (disch := first | (simp only [go_sem, gb0, eq_self]; done) | omega | (simp only [gl1, gl2]; omega)) only [go_sem, ↓reduceIte, Nat.reduceEqDiff, Nat.reduceAdd, Nat.reduceMul, Nat.reduceSub, Int.reduceToNat, Nat.reduceBEq, hl, eq_self, decide_true, Bool.not_true]
  refine WP_for 13 b.length (fun j st h => st 0 = LP a ∧ st 1 = LP b ∧ st 12 = I b.length ∧ ∀ k, k < j → nth a k = nth b k) (by simp (disch := first | (simp only [go_sem, gb0, eq_self]; done) | omega | (simp only [gl1, gl2]; omega)) only [go_sem, ↓reduceIte, Nat.reduceEqDiff, Nat.reduceAdd, Nat.reduceMul, Nat.reduceSub, Int.reduceToNat, Nat.reduceBEq]) ⟨by simp (disch := first | (simp only [go_sem, gb0, eq_self]; done) | omega | (simp only [gl1, gl2]; omega)) only [go_sem, ↓reduceIte, Nat.reduceEqDiff, Nat.reduceAdd, Nat.reduceMul, Nat.reduceSub, Int.reduceToNat, Nat.reduceBEq], by simp (disch := first | (simp only [go_sem, gb0, eq_self]; done) | omega | (simp only [gl1, gl2]; omega)) only [go_sem, ↓reduceIte, Nat.reduceEqDiff, Nat.reduceAdd, Nat.reduceMul, Nat.reduceSub, Int.reduceToNat, Nat.reduceBEq], by simp (disch := first | (simp only [go_sem, gb0, eq_self]; done) | omega | (simp only [gl1, gl2]; omega)) only [go_sem, ↓reduceIte, Nat.reduceEqDiff, Nat.reduceAdd, Nat.reduceMul, Nat.reduceSub, Int.reduceToNat, Nat.reduceBEq, hl], by omega⟩ ?_
  rintro j st h hj s13 ⟨s0, s1, s12, hall⟩
  by_cases hlt : j < b.length
  case neg =>
    have hr : decide (a = b) = true := decide_eq_true (list_ext_nth hl fun k hk => hall k (by omega))
    simp (disch := first | (simp only [go_sem, gb0, eq_self]; done) | omega | (simp only [gl1, gl2]; omega)) only [go_sem, ↓reduceIte, Nat.reduceEqDiff, Nat.reduceAdd, Nat.reduceMul, Nat.reduceSub, Int.reduceToNat, Nat.reduceBEq, s0, s1, s12, s13, hlt, hr]
  have hla : j < a.length := by omega
  have hla' : (j : Int) < a.length := by omega
  by_cases hc : nth a j = nth b j
  · have e1 : (nth a j).1 = (nth b j).1 := by rw [hc]
    have e2 : (nth a j).2 = (nth b j).2 := by rw [hc]
    simp (disch := first | (simp only [go_sem, gb0, eq_self]; done) | omega | (simp only [gl1, gl2]; omega)) only [go_sem, ↓reduceIte, Nat.reduceEqDiff, Nat.reduceAdd, Nat.reduceMul, Nat.reduceSub, Int.reduceToNat, Nat.reduceBEq, s0, s1, s12, s13, hlt, hla, hla', e1, e2, eq_self, decide_true, Bool.not_true]
    rw [ForK_normal]
    refine ⟨hlt, by simp (disch := first | (simp only [go_sem, gb0, eq_self]; done) | omega | (simp only [gl1, gl2]; omega)) only [go_sem, ↓reduceIte, Nat.reduceEqDiff, Nat.reduceAdd, Nat.reduceMul, Nat.reduceSub, Int.reduceToNat, Nat.reduceBEq, s13], by simp (disch := first | (simp only [go_sem, gb0, eq_self]; done) | omega | (simp only [gl1, gl2]; omega)) only [go_sem, ↓reduceIte, Nat.reduceEqDiff, Nat.reduceAdd, Nat.reduceMul, Nat.reduceSub, Int.reduceToNat, Nat.reduceBEq, s0], by simp (disch := first | (simp only [go_sem, gb0, eq_self]; done) | omega | (simp only [gl1, gl2]; omega)) only [go_sem, ↓reduceIte, Nat.reduceEqDiff, Nat.reduceAdd, Nat.reduceMul, Nat.reduceSub, Int.reduceToNat, Nat.reduceBEq, s1], by simp (disch := first | (simp only [go_sem, gb0, eq_self]; done) | omega | (simp only [gl1, gl2]; omega)) only [go_sem, ↓reduceIte, Nat.reduceEqDiff, Nat.reduceAdd, Nat.reduceMul, Nat.reduceSub, Int.reduceToNat, Nat.reduceBEq, s12], fun k hk => ?_⟩
    by_cases hkj : k = j
    · subst hkj; exact hc
    · exact hall k (by omega)
  · have hr : decide (a = b) = false := decide_eq_false fun h => hc (by rw [h])
    have hd : (decide ((nth a j).1 = (nth b j).1) && decide ((nth a j).2 = (nth b j).2)) = false := by
      rw [Bool.and_eq_false_iff, decide_eq_false_iff_not, decide_eq_false_iff_not]
      by_cases h1 : (nth a j).1 = (nth b j).1
      · right; exact fun h2 => hc (Prod.ext h1 h2)
      · exact .inl h1
    simp (disch := first | (simp only [go_sem, gb0, eq_self]; done) | omega | (simp only [gl1, gl2]; omega)) only [go_sem, ↓reduceIte, Nat.reduceEqDiff, Nat.reduceAdd, Nat.reduceMul, Nat.reduceSub, Int.reduceToNat, Nat.reduceBEq, s0, s1, s12, s13, hlt, hla, hla', hd, hr]
theorem f22_con (a b : List Int) (ha : a.length ≤ maxLen) (hb : b.length ≤ maxLen) : Con Try.prog cfg 22 [LI a, LI b] (.bool (decide (a = b))) := by
  have ml : maxLen = 9223372036854775807 := by decide
  by_cases hl : a.length = b.length
  case neg =>
    have hr : decide (a = b) = false := decide_eq_false fun h => hl (by rw [h])
    rw [hr]
    refine Con_intro Try.func22 rfl ok22 (Nat.le_of_ble_eq_true rfl) rfl ?_
    simp only [Try.f22, Option.getD_some, initSt2]
    simp (disch := first | (simp only [go_sem, gb0, eq_self]; done) | omega | (simp only [gl1, gl2]; omega)) only [go_sem, ↓reduceIte, Nat.reduceEqDiff, Nat.reduceAdd, Nat.reduceMul, Nat.reduceSub, Int.reduceToNat, Nat.reduceBEq, hl]
  have hl' : (a.length : Int) = b.length := by omega
  refine Con_intro Try.func22 rfl ok22 (Nat.le_of_ble_eq_true rfl) rfl ?_
  simp only [Try.f22, Option.getD_some, initSt2]
  simp (disch := first | (simp only [go_sem, gb0, eq_self]; done) | omega | (simp only [gl1, gl2]; omega)) only [go_sem, ↓reduceIte, Nat.reduceEqDiff, Nat.reduceAdd, Nat.reduceMul, Nat.reduceSub, Int.reduceToNat, Nat.reduceBEq, hl, eq_self, decide_true, Bool.not_true]
  refine WP_for 5 b.length (fun j st h => st 0 = LI a ∧ st 1 = LI b ∧ ∀ k, k < j → nth a k = nth b k) (by simp (disch := first | (simp only [go_sem, gb0, eq_self]; done) | omega | (simp only [gl1, gl2]; omega)) only [go_sem, ↓reduceIte, Nat.reduceEqDiff, Nat.reduceAdd, Nat.reduceMul, Nat.reduceSub, Int.reduceToNat, Nat.reduceBEq]) ⟨by simp (disch := first | (simp only [go_sem, gb0, eq_self]; done) | omega | (simp only [gl1, gl2]; omega)) only [go_sem, ↓reduceIte, Nat.reduceEqDiff, Nat.reduceAdd, Nat.reduceMul, Nat.reduceSub, Int.reduceToNat, Nat.reduceBEq], by simp (disch := first | (simp only [go_sem, gb0, eq_self]; done) | omega | (simp only [gl1, gl2]; omega)) only [go_sem, ↓reduceIte, Nat.reduceEqDiff, Nat.reduceAdd, Nat.reduceMul, Nat.reduceSub, Int.reduceToNat, Nat.reduceBEq], by omega⟩ ?_
  rintro j st h hj s5 ⟨s0, s1, hall⟩
  by_cases hlt : j < b.length
  case neg =>
    have hr : decide (a = b) = true := decide_eq_true (list_ext_nth hl fun k hk => hall k (by omega))
    have hlt' : ¬ j < a.length := by omega
    simp (disch := first | (simp only [go_sem, gb0, eq_self]; done) | omega | (simp only [gl1, gl2]; omega)) only [go_sem, ↓reduceIte, Nat.reduceEqDiff, Nat.reduceAdd, Nat.reduceMul, Nat.reduceSub, Int.reduceToNat, Nat.reduceBEq, s0, s1, s5, hlt, hlt', hr]
  have hla : j < a.length := by omega
  have hla' : (j : Int) < a.length := by omega
  by_cases hc : nth a j = nth b j
  · simp (disch := first | (simp only [go_sem, gb0, eq_self]; done) | omega | (simp only [gl1, gl2]; omega)) only [go_sem, ↓reduceIte, Nat.reduceEqDiff, Nat.reduceAdd, Nat.reduceMul, Nat.reduceSub, Int.reduceToNat, Nat.reduceBEq, s0, s1, s5, hlt, hla, hla', hc, eq_self, decide_true, Bool.not_true]
    rw [ForK_normal]
    refine ⟨hlt, by simp (disch := first | (simp only [go_sem, gb0, eq_self]; done) | omega | (simp only [gl1, gl2]; omega)) only [go_sem, ↓reduceIte, Nat.reduceEqDiff, Nat.reduceAdd, Nat.reduceMul, Nat.reduceSub, Int.reduceToNat, Nat.reduceBEq, s5], by simp (disch := first | (simp only [go_sem, gb0, eq_self]; done) | omega | (simp only [gl1, gl2]; omega)) only [go_sem, ↓reduceIte, Nat.reduceEqDiff, Nat.reduceAdd, Nat.reduceMul, Nat.reduceSub, Int.reduceToNat, Nat.reduceBEq, s0], by simp (disch := first | (simp only [go_sem, gb0, eq_self]; done) | omega | (simp only [gl1, gl2]; omega)) only [go_sem, ↓reduceIte, Nat.reduceEqDiff, Nat.reduceAdd, Nat.reduceMul, Nat.reduceSub, Int.reduceToNat, Nat.reduceBEq, s1], fun k hk => ?_⟩
    by_cases hkj : k = j
    · subst hkj; exact hc
    · exact hall k (by omega)
  · have hr : decide (a = b) = false := decide_eq_false fun h => hc (by rw [h])
    simp (disch := first | (simp only [go_sem, gb0, eq_self]; done) | omega | (simp only [gl1, gl2]; omega)) only [go_sem, ↓reduceIte, Nat.reduceEqDiff, Nat.reduceAdd, Nat.reduceMul, Nat.reduceSub, Int.reduceToNat, Nat.reduceBEq, s0, s1, s5, hlt, hla, hla', hc, hr]

/-! ### Fractions that may be given -/
def isVB (f : Int × Int) : Bool := inB f.2 1 1048576 && (inB f.1 (-1099511627776) 1099511627776 && decide (gcdI f.1 f.2 = 1))
theorem f65_con (f : Int × Int) : Con Try.prog cfg 65 [FR f] (.bool (isVB f)) := by
  have hal : ∀ (g : Hp) (x y : Int), allocB g (some (.agg [I x, I y])) = some (.ptr g.nx 0, g.alloc (.cells false false [I x, I y])) := fun g x y => allocB_agg _ rfl
  cases c1 : inB f.2 1 1048576 with
  | false =>
    have hr : isVB f = false := by rw [isVB, c1]; rfl
    rw [hr]
    refine Con_intro Try.func65 rfl ok65 (Nat.le_of_ble_eq_true rfl) rfl ?_
    simp only [Try.f65, Option.getD_some, initSt1]
    simp (disch := first | (simp only [go_sem, gb0, eq_self]; done) | omega | (simp only [gl1, gl2]; omega)) only [go_sem, ↓reduceIte, Nat.reduceEqDiff, Nat.reduceAdd, Nat.reduceMul, Nat.reduceSub, Int.reduceToNat, Nat.reduceBEq, hal, c1]
  | true =>
  cases c2 : inB f.1 (-1099511627776) 1099511627776 with
  | false =>
    have hr : isVB f = false := by rw [isVB, c2, Bool.false_and, Bool.and_false]
    rw [hr]
    refine Con_intro Try.func65 rfl ok65 (Nat.le_of_ble_eq_true rfl) rfl ?_
    simp only [Try.f65, Option.getD_some, initSt1]
    simp (disch := first | (simp only [go_sem, gb0, eq_self]; done) | omega | (simp only [gl1, gl2]; omega)) only [go_sem, ↓reduceIte, Nat.reduceEqDiff, Nat.reduceAdd, Nat.reduceMul, Nat.reduceSub, Int.reduceToNat, Nat.reduceBEq, hal, c1, c2]
  | true =>
    have hr : isVB f = decide (gcdI f.1 f.2 = 1) := by rw [isVB, c1, c2]; rfl
    have c1' := c1
    have c2' := c2
    simp only [inB, Bool.and_eq_true, decide_eq_true_eq] at c1' c2'
    have kg := fun h h' K => k79 (h := h) (h' := h') (K := K) f.1 f.2 (by simp only [big]; omega) (by simp only [big]; omega)
    rw [hr]
    refine Con_intro Try.func65 rfl ok65 (Nat.le_of_ble_eq_true rfl) rfl ?_
    simp only [Try.f65, Option.getD_some, initSt1]
    simp (disch := first | (simp only [go_sem, gb0, eq_self]; done) | omega | (simp only [gl1, gl2]; omega)) only [go_sem, ↓reduceIte, Nat.reduceEqDiff, Nat.reduceAdd, Nat.reduceMul, Nat.reduceSub, Int.reduceToNat, Nat.reduceBEq, hal, c1, c2, kg]
theorem f64_con (f : Int × Int) : Con Try.prog cfg 64 [FR f] (.bool (!isVB f)) := by
  have hal : ∀ (g : Hp) (x y : Int), allocB g (some (.agg [I x, I y])) = some (.ptr g.nx 0, g.alloc (.cells false false [I x, I y])) := fun g x y => allocB_agg _ rfl
  have k65 := fun h h' K => ConW_num (h := h) (h' := h') (K := K) (f65_con f) rfl
  refine Con_intro Try.func64 rfl ok64 (Nat.le_of_ble_eq_true rfl) rfl ?_
  simp only [Try.f64, Option.getD_some, initSt1]
  simp (disch := first | (simp only [go_sem, gb0, eq_self]; done) | omega | (simp only [gl1, gl2]; omega)) only [go_sem, ↓reduceIte, Nat.reduceEqDiff, Nat.reduceAdd, Nat.reduceMul, Nat.reduceSub, Int.reduceToNat, Nat.reduceBEq, hal, k65]
theorem all_nth' {v : List (Int × Int)} {p : Int × Int → Bool} (h : ∀ i, i < v.length → p (nth v i) = true) : v.all p = true := by
  refine List.all_eq_true.2 fun x hx => ?_
  obtain ⟨i, hi, rfl⟩ := List.getElem_of_mem hx
  rw [← nth_getElem hi]; exact h i hi
theorem f78_con (v : List (Int × Int)) (hv : v.length ≤ maxLen) : ∃ i : Int, Con Try.prog cfg 78 [LP v, .fn 64 []] (I i) ∧ (decide (0 ≤ i)) = !v.all isVB := by
  have ml : maxLen = 9223372036854775807 := by decide
  by_cases hall : v.all isVB = true
  · refine ⟨-1, ?_, by rw [hall]; rfl⟩
    refine Con_intro Try.func78 rfl ok78 (Nat.le_of_ble_eq_true rfl) rfl ?_
    simp only [Try.f78, Option.getD_some, initSt2]
    simp (disch := first | (simp only [go_sem, gb0, eq_self]; done) | omega | (simp only [gl1, gl2]; omega)) only [go_sem, ↓reduceIte, Nat.reduceEqDiff, Nat.reduceAdd, Nat.reduceMul, Nat.reduceSub, Int.reduceToNat, Nat.reduceBEq]
    refine WP_for 8 v.length (fun j st h => st 0 = LP v ∧ st 1 = .fn 64 [] ∧ st 7 = I v.length) (by simp (disch := first | (simp only [go_sem, gb0, eq_self]; done) | omega | (simp only [gl1, gl2]; omega)) only [go_sem, ↓reduceIte, Nat.reduceEqDiff, Nat.reduceAdd, Nat.reduceMul, Nat.reduceSub, Int.reduceToNat, Nat.reduceBEq]) ⟨by simp (disch := first | (simp only [go_sem, gb0, eq_self]; done) | omega | (simp only [gl1, gl2]; omega)) only [go_sem, ↓reduceIte, Nat.reduceEqDiff, Nat.reduceAdd, Nat.reduceMul, Nat.reduceSub, Int.reduceToNat, Nat.reduceBEq], by simp (disch := first | (simp only [go_sem, gb0, eq_self]; done) | omega | (simp only [gl1, gl2]; omega)) only [go_sem, ↓reduceIte, Nat.reduceEqDiff, Nat.reduceAdd, Nat.reduceMul, Nat.reduceSub, Int.reduceToNat, Nat.reduceBEq], by simp (disch := first | (simp only [go_sem, gb0, eq_self]; done) | omega | (simp only [gl1, gl2]; omega)) only [go_sem, ↓reduceIte, Nat.reduceEqDiff, Nat.reduceAdd, Nat.reduceMul, Nat.reduceSub, Int.reduceToNat, Nat.reduceBEq]⟩ ?_
    rintro j st h hj s8 ⟨s0, s1, s7⟩
    by_cases hlt : j < v.length
    case neg => simp (disch := first | (simp only [go_sem, gb0, eq_self]; done) | omega | (simp only [gl1, gl2]; omega)) only [go_sem, ↓reduceIte, Nat.reduceEqDiff, Nat.reduceAdd, Nat.reduceMul, Nat.reduceSub, Int.reduceToNat, Nat.reduceBEq, s0, s1, s7, s8, hlt]
    have hf : isVB (nth v j) = true := List.all_eq_true.1 hall _ (nth_mem hlt)
    have k64 := fun h h' K => ConW_num (h := h) (h' := h') (K := K) (f64_con (nth v j)) rfl
    rw [hf] at k64
    simp (disch := first | (simp only [go_sem, gb0, eq_self]; done) | omega | (simp only [gl1, gl2]; omega)) only [go_sem, ↓reduceIte, Nat.reduceEqDiff, Nat.reduceAdd, Nat.reduceMul, Nat.reduceSub, Int.reduceToNat, Nat.reduceBEq, s0, s1, s7, s8, hlt, List.append_nil, k64]
    rw [ForK_normal]
    exact ⟨hlt, by simp (disch := first | (simp only [go_sem, gb0, eq_self]; done) | omega | (simp only [gl1, gl2]; omega)) only [go_sem, ↓reduceIte, Nat.reduceEqDiff, Nat.reduceAdd, Nat.reduceMul, Nat.reduceSub, Int.reduceToNat, Nat.reduceBEq, s8], by simp (disch := first | (simp only [go_sem, gb0, eq_self]; done) | omega | (simp only [gl1, gl2]; omega)) only [go_sem, ↓reduceIte, Nat.reduceEqDiff, Nat.reduceAdd, Nat.reduceMul, Nat.reduceSub, Int.reduceToNat, Nat.reduceBEq, s0], by simp (disch := first | (simp only [go_sem, gb0, eq_self]; done) | omega | (simp only [gl1, gl2]; omega)) only [go_sem, ↓reduceIte, Nat.reduceEqDiff, Nat.reduceAdd, Nat.reduceMul, Nat.reduceSub, Int.reduceToNat, Nat.reduceBEq, s1], by simp (disch := first | (simp only [go_sem, gb0, eq_self]; done) | omega | (simp only [gl1, gl2]; omega)) only [go_sem, ↓reduceIte, Nat.reduceEqDiff, Nat.reduceAdd, Nat.reduceMul, Nat.reduceSub, Int.reduceToNat, Nat.reduceBEq, s7]⟩
  · -- the first one that is none
    have hex : ∃ i, i < v.length ∧ isVB (nth v i) = false ∧ ∀ k, k < i → isVB (nth v k) = true := by
      have : ∀ m, m ≤ v.length → (∀ k, k < m → isVB (nth v k) = true) ∨ ∃ i, i < m ∧ isVB (nth v i) = false ∧ ∀ k, k < i → isVB (nth v k) = true := by
        intro m
        induction m with
        | zero => intro _; left; intro k hk; omega
        | succ m ih =>
          intro hm
          rcases ih (by omega) with h1 | ⟨i, h1, h2⟩
          · cases hb : isVB (nth v m) with
            | true =>
              left; intro k hk
              by_cases hkm : k = m
              · subst hkm; exact hb
              · exact h1 k (by omega)
            | false => exact .inr ⟨m, by omega, hb, h1⟩
          · exact .inr ⟨i, by omega, h2⟩
      rcases this v.length (Nat.le_refl _) with h1 | h1
      · exact (hall (all_nth' h1)).elim
      · exact h1
    obtain ⟨i, hi, hb, hpre⟩ := hex
    refine ⟨i, ?_, by
      have : v.all isVB = false := by simpa using hall
      rw [this]; exact decide_eq_true (by omega)⟩
    refine Con_intro Try.func78 rfl ok78 (Nat.le_of_ble_eq_true rfl) rfl ?_
    simp only [Try.f78, Option.getD_some, initSt2]
    simp (disch := first | (simp only [go_sem, gb0, eq_self]; done) | omega | (simp only [gl1, gl2]; omega)) only [go_sem, ↓reduceIte, Nat.reduceEqDiff, Nat.reduceAdd, Nat.reduceMul, Nat.reduceSub, Int.reduceToNat, Nat.reduceBEq]
    refine WP_for 8 v.length (fun j st h => st 0 = LP v ∧ st 1 = .fn 64 [] ∧ st 7 = I v.length ∧ j ≤ i) (by simp (disch := first | (simp only [go_sem, gb0, eq_self]; done) | omega | (simp only [gl1, gl2]; omega)) only [go_sem, ↓reduceIte, Nat.reduceEqDiff, Nat.reduceAdd, Nat.reduceMul, Nat.reduceSub, Int.reduceToNat, Nat.reduceBEq]) ⟨by simp (disch := first | (simp only [go_sem, gb0, eq_self]; done) | omega | (simp only [gl1, gl2]; omega)) only [go_sem, ↓reduceIte, Nat.reduceEqDiff, Nat.reduceAdd, Nat.reduceMul, Nat.reduceSub, Int.reduceToNat, Nat.reduceBEq], by simp (disch := first | (simp only [go_sem, gb0, eq_self]; done) | omega | (simp only [gl1, gl2]; omega)) only [go_sem, ↓reduceIte, Nat.reduceEqDiff, Nat.reduceAdd, Nat.reduceMul, Nat.reduceSub, Int.reduceToNat, Nat.reduceBEq], by simp (disch := first | (simp only [go_sem, gb0, eq_self]; done) | omega | (simp only [gl1, gl2]; omega)) only [go_sem, ↓reduceIte, Nat.reduceEqDiff, Nat.reduceAdd, Nat.reduceMul, Nat.reduceSub, Int.reduceToNat, Nat.reduceBEq], by omega⟩ ?_
    rintro j st h hj s8 ⟨s0, s1, s7, hji⟩
    have hlt : j < v.length := by omega
    have k64 := fun h h' K => ConW_num (h := h) (h' := h') (K := K) (f64_con (nth v j)) rfl
    by_cases he : j = i
    · subst he
      rw [hb] at k64
      simp (disch := first | (simp only [go_sem, gb0, eq_self]; done) | omega | (simp only [gl1, gl2]; omega)) only [go_sem, ↓reduceIte, Nat.reduceEqDiff, Nat.reduceAdd, Nat.reduceMul, Nat.reduceSub, Int.reduceToNat, Nat.reduceBEq, s0, s1, s7, s8, hlt, List.append_nil, k64]
    · rw [hpre j (by omega)] at k64
      simp (disch := first | (simp only [go_sem, gb0, eq_self]; done) | omega | (simp only [gl1, gl2]; omega)) only [go_sem, ↓reduceIte, Nat.reduceEqDiff, Nat.reduceAdd, Nat.reduceMul, Nat.reduceSub, Int.reduceToNat, Nat.reduceBEq, s0, s1, s7, s8, hlt, List.append_nil, k64]
      rw [ForK_normal]
      exact ⟨hlt, by simp (disch := first | (simp only [go_sem, gb0, eq_self]; done) | omega | (simp only [gl1, gl2]; omega)) only [go_sem, ↓reduceIte, Nat.reduceEqDiff, Nat.reduceAdd, Nat.reduceMul, Nat.reduceSub, Int.reduceToNat, Nat.reduceBEq, s8], by simp (disch := first | (simp only [go_sem, gb0, eq_self]; done) | omega | (simp only [gl1, gl2]; omega)) only [go_sem, ↓reduceIte, Nat.reduceEqDiff, Nat.reduceAdd, Nat.reduceMul, Nat.reduceSub, Int.reduceToNat, Nat.reduceBEq, s0], by simp (disch := first | (simp only [go_sem, gb0, eq_self]; done) | omega | (simp only [gl1, gl2]; omega)) only [go_sem, ↓reduceIte, Nat.reduceEqDiff, Nat.reduceAdd, Nat.reduceMul, Nat.reduceSub, Int.reduceToNat, Nat.reduceBEq, s1], by simp (disch := first | (simp only [go_sem, gb0, eq_self]; done) | omega | (simp only [gl1, gl2]; omega)) only [go_sem, ↓reduceIte, Nat.reduceEqDiff, Nat.reduceAdd, Nat.reduceMul, Nat.reduceSub, Int.reduceToNat, Nat.reduceBEq, s7], by omega⟩
theorem f63_con (v : List (Int × Int)) (hv : v.length ≤ maxLen) : Con Try.prog cfg 63 [LP v, .fn 64 []] (.bool (!v.all isVB)) := by
  obtain ⟨i, c78, hi⟩ := f78_con v hv
  have k78 := fun h h' K => ConW_num (h := h) (h' := h') (K := K) c78 rfl
  have hse : ∀ h : Hp, sealA h (.fn 64 []) = some (.fn 64 [], h) := fun _ => rfl
  refine Con_intro Try.func63 rfl ok63 (Nat.le_of_ble_eq_true rfl) rfl ?_
  simp only [Try.f63, Option.getD_some, initSt2]
  simp (disch := first | (simp only [go_sem, gb0, eq_self]; done) | omega | (simp only [gl1, gl2]; omega)) only [go_sem, ↓reduceIte, Nat.reduceEqDiff, Nat.reduceAdd, Nat.reduceMul, Nat.reduceSub, Int.reduceToNat, Nat.reduceBEq, k78, hse, hi]
end Go.Proofs.Ytgamcclfdkpcgaa

set_option linter.unusedVariables false
set_option linter.unusedSimpArgs false
set_option maxRecDepth 10000
namespace Go.Proofs.Ytgamcclfdkpcgaa
open Go Go.Am

variable {h h' : Hp} {K : AV → Hp → Prop}

theorem f71b_con (a b : Int) (ha : 0 ≤ a ∧ a ≤ 9223372036854775807) (hb : 0 ≤ b ∧ b ≤ 9223372036854775807) : Con Try.prog cfg 71 [I a, I b] (I (gcdI a b)) := by
  refine Con_intro Try.func71 rfl ok71 (Nat.le_of_ble_eq_true rfl) rfl ?_
  simp only [Try.f71, Option.getD_some, initSt2]
  simp (disch := first | (simp only [go_sem, gb0, eq_self]; done) | omega | (simp only [gl1, gl2]; omega)) only [go_sem, ↓reduceIte, Nat.reduceEqDiff, Nat.reduceAdd, Nat.reduceMul, Nat.reduceSub, Int.reduceToNat, Nat.reduceBEq]
  refine WP_loopK (fun m st h => ∃ x y : Int, m = y.toNat ∧ 0 ≤ x ∧ x ≤ 9223372036854775807 ∧ 0 ≤ y ∧ y ≤ 9223372036854775807 ∧ gcdI x y = gcdI a b ∧ st 0 = I x ∧ st 1 = I y) b.toNat
    ⟨a, b, rfl, ha.1, ha.2, hb.1, hb.2, rfl, by simp (disch := first | (simp only [go_sem, gb0, eq_self]; done) | omega | (simp only [gl1, gl2]; omega)) only [go_sem, ↓reduceIte, Nat.reduceEqDiff, Nat.reduceAdd, Nat.reduceMul, Nat.reduceSub, Int.reduceToNat, Nat.reduceBEq], by simp (disch := first | (simp only [go_sem, gb0, eq_self]; done) | omega | (simp only [gl1, gl2]; omega)) only [go_sem, ↓reduceIte, Nat.reduceEqDiff, Nat.reduceAdd, Nat.reduceMul, Nat.reduceSub, Int.reduceToNat, Nat.reduceBEq]⟩ ?_
  rintro n st h ⟨x, y, rfl, hx0, hx1, hy0, hy1, hgg, s0, s1⟩
  by_cases hy : 0 < y
  case neg =>
    obtain rfl : y = 0 := by omega
    rw [gcdI_zero] at hgg
    have : (x.natAbs : Int) = x := by omega
    rw [this] at hgg
    subst hgg
    have h00 : ¬ (0 : Int) < 0 := by decide
    simp (disch := first | (simp only [go_sem, gb0, eq_self]; done) | omega | (simp only [gl1, gl2]; omega)) only [go_sem, ↓reduceIte, Nat.reduceEqDiff, Nat.reduceAdd, Nat.reduceMul, Nat.reduceSub, Int.reduceToNat, Nat.reduceBEq, s0, s1, h00]
  have hy' : ¬ y = 0 := by omega
  have hm0 : 0 ≤ x.tmod y := Int.tmod_nonneg y hx0
  have hm1 : x.tmod y < y := Int.tmod_lt_of_pos x (by omega)
  simp (disch := first | (simp only [go_sem, gb0, eq_self]; done) | omega | (simp only [gl1, gl2]; omega)) only [go_sem, ↓reduceIte, Nat.reduceEqDiff, Nat.reduceAdd, Nat.reduceMul, Nat.reduceSub, Int.reduceToNat, Nat.reduceBEq, s0, s1, hy, hy']
  rw [LoopK_normal]
  exact ⟨(x.tmod y).toNat, by omega, y, x.tmod y, rfl, by omega, by omega, hm0, by omega, (gcdI_step x y).trans hgg, by simp (disch := first | (simp only [go_sem, gb0, eq_self]; done) | omega | (simp only [gl1, gl2]; omega)) only [go_sem, ↓reduceIte, Nat.reduceEqDiff, Nat.reduceAdd, Nat.reduceMul, Nat.reduceSub, Int.reduceToNat, Nat.reduceBEq], by simp (disch := first | (simp only [go_sem, gb0, eq_self]; done) | omega | (simp only [gl1, gl2]; omega)) only [go_sem, ↓reduceIte, Nat.reduceEqDiff, Nat.reduceAdd, Nat.reduceMul, Nat.reduceSub, Int.reduceToNat, Nat.reduceBEq]⟩
theorem f80_con (x : Int) (hx : -9223372036854775807 ≤ x ∧ x ≤ 9223372036854775807) : Con Try.prog cfg 80 [I x] (I (absI x)) := by
  have e : max x (0 - x) = absI x := by unfold absI; omega
  refine Con_intro Try.func80 rfl ok80 (Nat.le_of_ble_eq_true rfl) rfl ?_
  simp only [Try.f80, Option.getD_some, initSt1]
  simp (disch := first | (simp only [go_sem, gb0, eq_self]; done) | omega | (simp only [gl1, gl2]; omega)) only [go_sem, ↓reduceIte, Nat.reduceEqDiff, Nat.reduceAdd, Nat.reduceMul, Nat.reduceSub, Int.reduceToNat, Nat.reduceBEq, e]
def vldB (f : Int × Int) : Bool := decide (1 ≤ f.2) && decide (gcdI f.1 f.2 = 1)
theorem f67_con (f : Int × Int) (h2 : f.2 ≤ 9223372036854775807) : Con Try.prog cfg 67 [FR f] (.bool (vldB f)) := by
  have hal : ∀ (g : Hp) (x y : Int), allocB g (some (.agg [I x, I y])) = some (.ptr g.nx 0, g.alloc (.cells false false [I x, I y])) := fun g x y => allocB_agg _ rfl
  by_cases c1 : f.2 < 1
  · have hr : vldB f = false := by rw [vldB, decide_eq_false (show ¬ 1 ≤ f.2 by omega)]; rfl
    rw [hr]
    refine Con_intro Try.func67 rfl ok67 (Nat.le_of_ble_eq_true rfl) rfl ?_
    simp only [Try.f67, Option.getD_some, initSt1]
    simp (disch := first | (simp only [go_sem, gb0, eq_self]; done) | omega | (simp only [gl1, gl2]; omega)) only [go_sem, ↓reduceIte, Nat.reduceEqDiff, Nat.reduceAdd, Nat.reduceMul, Nat.reduceSub, Int.reduceToNat, Nat.reduceBEq, hal, c1]
  · have hr : vldB f = decide (gcdI f.1 f.2 = 1) := by rw [vldB, decide_eq_true (show 1 ≤ f.2 by omega)]; rfl
    have hm := tmod_lt_abs f.1 (show f.2 ≠ 0 by omega)
    have k80 := fun h h' K => ConW_num (h := h) (h' := h') (K := K) (f80_con (f.1.tmod f.2) (by omega)) rfl
    have e : gcdI f.2 (absI (f.1.tmod f.2)) = gcdI f.1 f.2 := by
      rw [← gcdI_step f.1 f.2]
      unfold gcdI absI
      congr 1
    have ha := absI_nonneg (f.1.tmod f.2)
    have k71' := fun h h' K => ConW_num (h := h) (h' := h') (K := K) (f71b_con f.2 (absI (f.1.tmod f.2)) (by omega) (by unfold absI at ha ⊢; omega)) rfl
    rw [e] at k71'
    have n0 : ¬ f.2 = 0 := by omega
    rw [hr]
    refine Con_intro Try.func67 rfl ok67 (Nat.le_of_ble_eq_true rfl) rfl ?_
    simp only [Try.f67, Option.getD_some, initSt1]
    simp (disch := first | (simp only [go_sem, gb0, eq_self]; done) | omega | (simp only [gl1, gl2]; omega)) only [go_sem, ↓reduceIte, Nat.reduceEqDiff, Nat.reduceAdd, Nat.reduceMul, Nat.reduceSub, Int.reduceToNat, Nat.reduceBEq, hal, c1, n0, k80, k71']
theorem f47_con (n : Nat) (v : List (Int × Int)) (hv : v.length ≤ maxLen) (h64 : ∀ f ∈ v, f.2 ≤ 9223372036854775807) : Con Try.prog cfg 47 [I n, LP v] (.bool (v.all isVB && decide (v.length = n))) := by
  have ml : maxLen = 9223372036854775807 := by decide
  refine Con_intro Try.func47 rfl ok47 (Nat.le_of_ble_eq_true rfl) rfl ?_
  simp only [Try.f47, Option.getD_some, initSt2]
  simp (disch := first | (simp only [go_sem, gb0, eq_self]; done) | omega | (simp only [gl1, gl2]; omega)) only [go_sem, ↓reduceIte, Nat.reduceEqDiff, Nat.reduceAdd, Nat.reduceMul, Nat.reduceSub, Int.reduceToNat, Nat.reduceBEq]
  refine WP_for 5 v.length (fun j st h => st 0 = I n ∧ st 1 = LP v ∧ ∀ k, k < j → isVB (nth v k) = true) (by simp (disch := first | (simp only [go_sem, gb0, eq_self]; done) | omega | (simp only [gl1, gl2]; omega)) only [go_sem, ↓reduceIte, Nat.reduceEqDiff, Nat.reduceAdd, Nat.reduceMul, Nat.reduceSub, Int.reduceToNat, Nat.reduceBEq]) ⟨by simp (disch := first | (simp only [go_sem, gb0, eq_self]; done) | omega | (simp only [gl1, gl2]; omega)) only [go_sem, ↓reduceIte, Nat.reduceEqDiff, Nat.reduceAdd, Nat.reduceMul, Nat.reduceSub, Int.reduceToNat, Nat.reduceBEq], by simp (disch := first | (simp only [go_sem, gb0, eq_self]; done) | omega | (simp only [gl1, gl2]; omega)) only [go_sem, ↓reduceIte, Nat.reduceEqDiff, Nat.reduceAdd, Nat.reduceMul, Nat.reduceSub, Int.reduceToNat, Nat.reduceBEq], by omega⟩ ?_
  rintro j st h hj s5 ⟨s0, s1, hall⟩
  by_cases hlt : j < v.length
  case neg =>
    have hr : v.all isVB = true := all_nth' fun k hk => hall k (by omega)
    by_cases hl : v.length = n
    · have hlt' : ¬ j < n := by omega
      simp (disch := first | (simp only [go_sem, gb0, eq_self]; done) | omega | (simp only [gl1, gl2]; omega)) only [go_sem, ↓reduceIte, Nat.reduceEqDiff, Nat.reduceAdd, Nat.reduceMul, Nat.reduceSub, Int.reduceToNat, Nat.reduceBEq, s0, s1, s5, hlt, hlt', hr, hl, eq_self, decide_true]
    · have hl' : ¬ (v.length : Int) = n := by omega
      simp (disch := first | (simp only [go_sem, gb0, eq_self]; done) | omega | (simp only [gl1, gl2]; omega)) only [go_sem, ↓reduceIte, Nat.reduceEqDiff, Nat.reduceAdd, Nat.reduceMul, Nat.reduceSub, Int.reduceToNat, Nat.reduceBEq, s0, s1, s5, hlt, hr, hl, hl']
  have hmem := nth_mem hlt
  have h2 := h64 _ hmem
  have k67 := fun h h' K => ConW_num (h := h) (h' := h') (K := K) (f67_con (nth v j) h2) rfl
  have hno : isVB (nth v j) = false → v.all isVB = false := fun h => List.all_eq_false.2 ⟨_, hmem, by rw [h]; decide⟩
  obtain ⟨f, hf⟩ : ∃ f, f = nth v j := ⟨_, rfl⟩
  rw [← hf] at k67 hno h2
  have hst : (∀ k, k < j → isVB (nth v k) = true) → isVB f = true → ∀ k, k < j + 1 → isVB (nth v k) = true := fun h1 h2 k hk => by
    by_cases hkj : k = j
    · subst hkj; rw [← hf]; exact h2
    · exact h1 k (by omega)
  cases c1 : vldB f with
  | false =>
    have hr := hno (by
      rw [vldB, Bool.and_eq_false_iff, decide_eq_false_iff_not, decide_eq_false_iff_not] at c1
      rw [isVB]
      rcases c1 with c1 | c1
      · rw [show inB f.2 1 1048576 = false from by rw [inB, decide_eq_false c1]; rfl]; rfl
      · rw [decide_eq_false c1, Bool.and_false, Bool.and_false])
    simp (disch := first | (simp only [go_sem, gb0, eq_self]; done) | omega | (simp only [gl1, gl2]; omega)) only [go_sem, ↓reduceIte, Nat.reduceEqDiff, Nat.reduceAdd, Nat.reduceMul, Nat.reduceSub, Int.reduceToNat, Nat.reduceBEq, s0, s1, s5, hlt, ← hf, k67, c1, hr]
  | true =>
    have c1' := c1
    simp only [vldB, Bool.and_eq_true, decide_eq_true_eq] at c1'
    by_cases d1 : f.1 < -1099511627776
    · have hr := hno (by rw [isVB, show inB f.1 (-1099511627776) 1099511627776 = false from by rw [inB, decide_eq_false (by omega)]; rfl, Bool.false_and, Bool.and_false])
      simp (disch := first | (simp only [go_sem, gb0, eq_self]; done) | omega | (simp only [gl1, gl2]; omega)) only [go_sem, ↓reduceIte, Nat.reduceEqDiff, Nat.reduceAdd, Nat.reduceMul, Nat.reduceSub, Int.reduceToNat, Nat.reduceBEq, s0, s1, s5, hlt, ← hf, k67, c1, d1, hr]
    by_cases d2 : 1099511627776 < f.1
    · have hr := hno (by rw [isVB, show inB f.1 (-1099511627776) 1099511627776 = false from by rw [inB, decide_eq_false (show ¬ f.1 ≤ 1099511627776 by omega), Bool.and_false], Bool.false_and, Bool.and_false])
      simp (disch := first | (simp only [go_sem, gb0, eq_self]; done) | omega | (simp only [gl1, gl2]; omega)) only [go_sem, ↓reduceIte, Nat.reduceEqDiff, Nat.reduceAdd, Nat.reduceMul, Nat.reduceSub, Int.reduceToNat, Nat.reduceBEq, s0, s1, s5, hlt, ← hf, k67, c1, d1, d2, hr]
    by_cases d3 : 1048576 < f.2
    · have hr := hno (by rw [isVB, show inB f.2 1 1048576 = false from by rw [inB, decide_eq_false (show ¬ f.2 ≤ 1048576 by omega), Bool.and_false]]; rfl)
      simp (disch := first | (simp only [go_sem, gb0, eq_self]; done) | omega | (simp only [gl1, gl2]; omega)) only [go_sem, ↓reduceIte, Nat.reduceEqDiff, Nat.reduceAdd, Nat.reduceMul, Nat.reduceSub, Int.reduceToNat, Nat.reduceBEq, s0, s1, s5, hlt, ← hf, k67, c1, d1, d2, d3, hr, List.drop_succ_cons]
    have hy : isVB f = true := by
      rw [isVB, inB, inB, decide_eq_true c1'.1, decide_eq_true (show f.2 ≤ 1048576 by omega), decide_eq_true (show -1099511627776 ≤ f.1 by omega), decide_eq_true (show f.1 ≤ 1099511627776 by omega), decide_eq_true c1'.2]; rfl
    simp (disch := first | (simp only [go_sem, gb0, eq_self]; done) | omega | (simp only [gl1, gl2]; omega)) only [go_sem, ↓reduceIte, Nat.reduceEqDiff, Nat.reduceAdd, Nat.reduceMul, Nat.reduceSub, Int.reduceToNat, Nat.reduceBEq, s0, s1, s5, hlt, ← hf, k67, c1, d1, d2, d3, List.drop_succ_cons]
    rw [ForK_normal]
    exact ⟨hlt, by simp (disch := first | (simp only [go_sem, gb0, eq_self]; done) | omega | (simp only [gl1, gl2]; omega)) only [go_sem, ↓reduceIte, Nat.reduceEqDiff, Nat.reduceAdd, Nat.reduceMul, Nat.reduceSub, Int.reduceToNat, Nat.reduceBEq, s5], by simp (disch := first | (simp only [go_sem, gb0, eq_self]; done) | omega | (simp only [gl1, gl2]; omega)) only [go_sem, ↓reduceIte, Nat.reduceEqDiff, Nat.reduceAdd, Nat.reduceMul, Nat.reduceSub, Int.reduceToNat, Nat.reduceBEq, s0], by simp (disch := first | (simp only [go_sem, gb0, eq_self]; done) | omega | (simp only [gl1, gl2]; omega)) only [go_sem, ↓reduceIte, Nat.reduceEqDiff, Nat.reduceAdd, Nat.reduceMul, Nat.reduceSub, Int.reduceToNat, Nat.reduceBEq, s1], hst hall hy⟩

/-! ### Best and Check, with the answer of best put in -/
theorem f46_nil (p c : List Int) (v : List (Int × Int)) : Con Try.prog cfgX 46 [.agg [.nil, LI p, LI c], LP v] (I 2) := by
  have hal : ∀ g : Hp, allocB g (some (.agg [.nil, LI p, LI c])) = some (.ptr g.nx 0, g.alloc (.cells false false [.nil, LI p, LI c])) := fun g => allocB_agg _ rfl
  have k48 := fun h h' K => ConW_num (h := h) (h' := h') (K := K) (liftX (by decide) (f48_nil p c)) rfl
  have hse : ∀ h : Hp, sealA h (.agg [.nil, LI p, LI c]) = some (.agg [.nil, LI p, LI c], h) := fun h => sealA_agg _ (by simp only [AV.pureL, pure_L, Bool.and_true]; rfl)
  refine Con_intro Try.func46 rfl okX46 (Nat.le_of_ble_eq_true rfl) rfl ?_
  simp only [Try.f46, Option.getD_some, initSt2]
  simp (disch := first | (simp only [go_sem, gb0, eq_self]; done) | omega | (simp only [gl1, gl2]; omega)) only [go_sem, ↓reduceIte, Nat.reduceEqDiff, Nat.reduceAdd, Nat.reduceMul, Nat.reduceSub, Int.reduceToNat, Nat.reduceBEq, hal, k48, hse]
def chkR (nx : List (List Int)) (pay cost : List Int) (b v : List (Int × Int)) : Int := if chB nx pay cost && (decide (v.length = nx.length) && v.all isVB) then (if v = b then 0 else 10) else 2
theorem f46_con (nx : List (List Int)) (pay cost : List Int) (hk : okN nx pay cost) (v : List (Int × Int)) (hv : v.length ≤ maxLen) : Con Try.prog cfgX 46 [chA nx pay cost, LP v] (I (chkR nx pay cost (bestL nx pay cost) v)) := by
  have ml : maxLen = 9223372036854775807 := by decide
  have hkn := hk.n
  have hal : ∀ g : Hp, allocB g (some (chA nx pay cost)) = some (.ptr g.nx 0, g.alloc (.cells false false [LLI nx, LI pay, LI cost])) := fun g => allocB_agg _ rfl
  have k48 := fun h h' K => ConW_num (h := h) (h' := h') (K := K) (liftX (by decide) (f48_con nx pay cost hk)) rfl
  have hse : ∀ h : Hp, sealA h (chA nx pay cost) = some (chA nx pay cost, h) := fun h => sealA_agg _ (by simp only [AV.pureL, pure_L, Bool.and_true])
  have k63 := fun h h' K => ConW_num (h := h) (h' := h') (K := K) (liftX (by decide) (f63_con v hv)) rfl
  have hse2 : ∀ h : Hp, sealA h (.fn 64 []) = some (.fn 64 [], h) := fun _ => rfl
  cases c1 : chB nx pay cost with
  | false =>
    have hr : chkR nx pay cost (bestL nx pay cost) v = 2 := by rw [chkR, c1]; rfl
    rw [hr]
    refine Con_intro Try.func46 rfl okX46 (Nat.le_of_ble_eq_true rfl) rfl ?_
    simp only [Try.f46, Option.getD_some, initSt2]
    simp (disch := first | (simp only [go_sem, gb0, eq_self]; done) | omega | (simp only [gl1, gl2]; omega)) only [go_sem, ↓reduceIte, Nat.reduceEqDiff, Nat.reduceAdd, Nat.reduceMul, Nat.reduceSub, Int.reduceToNat, Nat.reduceBEq, hal, k48, hse, c1]
  | true =>
  by_cases c2 : v.length = nx.length
  case neg =>
    have hr : chkR nx pay cost (bestL nx pay cost) v = 2 := by rw [chkR, c1, decide_eq_false c2]; rfl
    rw [hr]
    refine Con_intro Try.func46 rfl okX46 (Nat.le_of_ble_eq_true rfl) rfl ?_
    simp only [Try.f46, Option.getD_some, initSt2]
    simp (disch := first | (simp only [go_sem, gb0, eq_self]; done) | omega | (simp only [gl1, gl2]; omega)) only [go_sem, ↓reduceIte, Nat.reduceEqDiff, Nat.reduceAdd, Nat.reduceMul, Nat.reduceSub, Int.reduceToNat, Nat.reduceBEq, hal, k48, hse, c1, c2]
  cases c3 : v.all isVB with
  | false =>
    have hr : chkR nx pay cost (bestL nx pay cost) v = 2 := by rw [chkR, c1, c3, Bool.and_false]; rfl
    rw [hr]
    refine Con_intro Try.func46 rfl okX46 (Nat.le_of_ble_eq_true rfl) rfl ?_
    simp only [Try.f46, Option.getD_some, initSt2]
    simp (disch := first | (simp only [go_sem, gb0, eq_self]; done) | omega | (simp only [gl1, gl2]; omega)) only [go_sem, ↓reduceIte, Nat.reduceEqDiff, Nat.reduceAdd, Nat.reduceMul, Nat.reduceSub, Int.reduceToNat, Nat.reduceBEq, hal, k48, hse, hse2, k63, c1, c2, c3, eq_self, decide_true, Bool.not_true]
  | true =>
    have C := okC.of c1
    have hr : chkR nx pay cost (bestL nx pay cost) v = if v = bestL nx pay cost then 0 else 10 := by rw [chkR, c1, c2, c3]; simp
    have hbl := bestL_len C
    have kb := fun h h' K => ConW_any (h := h) (h' := h') (K := K) (bestX C) rfl
    have hi : ∀ (h : Hp) (l : List (Int × Int)), importR h (LP l) = (LP l, h) := fun _ _ => rfl
    have k66 := fun h h' K => ConW_num (h := h) (h' := h') (K := K) (liftX (by decide) (f66_con v (bestL nx pay cost) hv (by omega))) rfl
    rw [hr]
    generalize bestL nx pay cost = b at *
    by_cases c4 : v = b
    · subst c4
      rw [if_pos rfl]
      refine Con_intro Try.func46 rfl okX46 (Nat.le_of_ble_eq_true rfl) rfl ?_
      simp only [Try.f46, Option.getD_some, initSt2]
      simp (disch := first | (simp only [go_sem, gb0, eq_self]; done) | omega | (simp only [gl1, gl2]; omega)) only [go_sem, ↓reduceIte, Nat.reduceEqDiff, Nat.reduceAdd, Nat.reduceMul, Nat.reduceSub, Int.reduceToNat, Nat.reduceBEq, hal, k48, hse, hse2, k63, c1, c2, c3, kb, hi, k66, eq_self, decide_true, Bool.not_true]
    · rw [if_neg c4]
      refine Con_intro Try.func46 rfl okX46 (Nat.le_of_ble_eq_true rfl) rfl ?_
      simp only [Try.f46, Option.getD_some, initSt2]
      simp (disch := first | (simp only [go_sem, gb0, eq_self]; done) | omega | (simp only [gl1, gl2]; omega)) only [go_sem, ↓reduceIte, Nat.reduceEqDiff, Nat.reduceAdd, Nat.reduceMul, Nat.reduceSub, Int.reduceToNat, Nat.reduceBEq, hal, k48, hse, hse2, k63, c1, c2, c3, kb, hi, k66, c4, eq_self, decide_true, Bool.not_true]
theorem f16_nil (p c : List Int) : Con Try.prog cfgX 16 [.agg [.nil, LI p, LI c]] (.tup [LP [], LI [], I 2]) := by
  have hal : ∀ g : Hp, allocB g (some (.agg [.nil, LI p, LI c])) = some (.ptr g.nx 0, g.alloc (.cells false false [.nil, LI p, LI c])) := fun g => allocB_agg _ rfl
  have k48 := fun h h' K => ConW_num (h := h) (h' := h') (K := K) (liftX (by decide) (f48_nil p c)) rfl
  have hse : ∀ h : Hp, sealA h (.agg [.nil, LI p, LI c]) = some (.agg [.nil, LI p, LI c], h) := fun h => sealA_agg _ (by simp only [AV.pureL, pure_L, Bool.and_true]; rfl)
  refine Con_intro Try.func16 rfl okX16 (Nat.le_of_ble_eq_true rfl) rfl ?_
  simp only [Try.f16, Option.getD_some, initSt1]
  simp (disch := first | (simp only [go_sem, gb0, eq_self]; done) | omega | (simp only [gl1, gl2]; omega)) only [go_sem, ↓reduceIte, Nat.reduceEqDiff, Nat.reduceAdd, Nat.reduceMul, Nat.reduceSub, Int.reduceToNat, Nat.reduceBEq, hal, k48, hse]
  rfl
def bstR (nx : List (List Int)) (pay cost : List Int) (b : List (Int × Int)) : AV := if chB nx pay cost then .tup [LP b, LI (stopsL nx.length pay b nx.length), I 0] else .tup [LP [], LI [], I 2]
theorem f16_con (nx : List (List Int)) (pay cost : List Int) (hk : okN nx pay cost) : Con Try.prog cfgX 16 [chA nx pay cost] (bstR nx pay cost (bestL nx pay cost)) := by
  have ml : maxLen = 9223372036854775807 := by decide
  have hal : ∀ g : Hp, allocB g (some (chA nx pay cost)) = some (.ptr g.nx 0, g.alloc (.cells false false [LLI nx, LI pay, LI cost])) := fun g => allocB_agg _ rfl
  have hal2 : ∀ (g : Hp) (x y : Int), allocB g (some (.agg [I x, I y])) = some (.ptr g.nx 0, g.alloc (.cells false false [I x, I y])) := fun g x y => allocB_agg _ rfl
  have k48 := fun h h' K => ConW_num (h := h) (h' := h') (K := K) (liftX (by decide) (f48_con nx pay cost hk)) rfl
  have hse : ∀ h : Hp, sealA h (chA nx pay cost) = some (chA nx pay cost, h) := fun h => sealA_agg _ (by simp only [AV.pureL, pure_L, Bool.and_true])
  cases c1 : chB nx pay cost with
  | false =>
    have hr : bstR nx pay cost (bestL nx pay cost) = .tup [LP [], LI [], I 2] := by rw [bstR, c1]; rfl
    rw [hr]
    refine Con_intro Try.func16 rfl okX16 (Nat.le_of_ble_eq_true rfl) rfl ?_
    simp only [Try.f16, Option.getD_some, initSt1]
    simp (disch := first | (simp only [go_sem, gb0, eq_self]; done) | omega | (simp only [gl1, gl2]; omega)) only [go_sem, ↓reduceIte, Nat.reduceEqDiff, Nat.reduceAdd, Nat.reduceMul, Nat.reduceSub, Int.reduceToNat, Nat.reduceBEq, hal, k48, hse, c1]
    rfl
  | true =>
    have C := okC.of c1
    have hr : bstR nx pay cost (bestL nx pay cost) = .tup [LP (bestL nx pay cost), LI (stopsL nx.length pay (bestL nx pay cost) nx.length), I 0] := by rw [bstR, c1]; rfl
    have hbl := bestL_len C
    have hlp := C.lp
    have hn6 := C.n6
    have kb := fun h h' K => ConW_any (h := h) (h' := h') (K := K) (bestX C) rfl
    have hi : ∀ (h : Hp) (l : List (Int × Int)), importR h (LP l) = (LP l, h) := fun _ _ => rfl
    rw [hr]
    generalize bestL nx pay cost = b at *
    obtain ⟨n, hn⟩ : ∃ n, n = nx.length := ⟨_, rfl⟩
    rw [← hn] at hbl ⊢
    refine Con_intro Try.func16 rfl okX16 (Nat.le_of_ble_eq_true rfl) rfl ?_
    simp only [Try.f16, Option.getD_some, initSt1]
    simp (disch := first | (simp only [go_sem, gb0, eq_self]; done) | omega | (simp only [gl1, gl2]; omega)) only [go_sem, ↓reduceIte, Nat.reduceEqDiff, Nat.reduceAdd, Nat.reduceMul, Nat.reduceSub, Int.reduceToNat, Nat.reduceBEq, hal, k48, hse, c1, kb, hi]
    refine WP_cut (fun st h => st 5 = LP b ∧ ∃ y, st 6 = y ∧ Go.Am.Own (e1 I) 1 h y (stopsL n pay b n)) ?_ ?_
    · refine WP_for 16 n (fun i st g => st 1 = .ptr 0 0 ∧ st 5 = LP b ∧ st 14 = LP b ∧ st 15 = I n ∧ 1 ≤ g.nx ∧ g.bl 0 = some (.cells false false [LLI nx, LI pay, LI cost]) ∧ ∃ y, st 6 = y ∧ OwnGe 1 (e1 I) 1 g y (stopsL n pay b i)) (by simp (disch := first | (simp only [go_sem, gb0, eq_self]; done) | omega | (simp only [gl1, gl2]; omega)) only [go_sem, ↓reduceIte, Nat.reduceEqDiff, Nat.reduceAdd, Nat.reduceMul, Nat.reduceSub, Int.reduceToNat, Nat.reduceBEq])
        ⟨by simp (disch := first | (simp only [go_sem, gb0, eq_self]; done) | omega | (simp only [gl1, gl2]; omega)) only [go_sem, ↓reduceIte, Nat.reduceEqDiff, Nat.reduceAdd, Nat.reduceMul, Nat.reduceSub, Int.reduceToNat, Nat.reduceBEq], by simp (disch := first | (simp only [go_sem, gb0, eq_self]; done) | omega | (simp only [gl1, gl2]; omega)) only [go_sem, ↓reduceIte, Nat.reduceEqDiff, Nat.reduceAdd, Nat.reduceMul, Nat.reduceSub, Int.reduceToNat, Nat.reduceBEq], by simp (disch := first | (simp only [go_sem, gb0, eq_self]; done) | omega | (simp only [gl1, gl2]; omega)) only [go_sem, ↓reduceIte, Nat.reduceEqDiff, Nat.reduceAdd, Nat.reduceMul, Nat.reduceSub, Int.reduceToNat, Nat.reduceBEq], by simp (disch := first | (simp only [go_sem, gb0, eq_self]; done) | omega | (simp only [gl1, gl2]; omega)) only [go_sem, ↓reduceIte, Nat.reduceEqDiff, Nat.reduceAdd, Nat.reduceMul, Nat.reduceSub, Int.reduceToNat, Nat.reduceBEq, hbl], by simp (disch := first | (simp only [go_sem, gb0, eq_self]; done) | omega | (simp only [gl1, gl2]; omega)) only [go_sem, ↓reduceIte, Nat.reduceEqDiff, Nat.reduceAdd, Nat.reduceMul, Nat.reduceSub, Int.reduceToNat, Nat.reduceBEq]; decide, by simp (disch := first | (simp only [go_sem, gb0, eq_self]; done) | omega | (simp only [gl1, gl2]; omega)) only [go_sem, ↓reduceIte, Nat.reduceEqDiff, Nat.reduceAdd, Nat.reduceMul, Nat.reduceSub, Int.reduceToNat, Nat.reduceBEq], .nil, by simp (disch := first | (simp only [go_sem, gb0, eq_self]; done) | omega | (simp only [gl1, gl2]; omega)) only [go_sem, ↓reduceIte, Nat.reduceEqDiff, Nat.reduceAdd, Nat.reduceMul, Nat.reduceSub, Int.reduceToNat, Nat.reduceBEq], .inl ⟨rfl, rfl⟩⟩ ?_
      rintro i st g hi s16 ⟨s1, s5, s14, s15, hgn, g0, y, s6, oy⟩
      by_cases hin : i < n
      case neg =>
        have hie : i = n := by omega
        subst hie
        simp (disch := first | (simp only [go_sem, gb0, eq_self]; done) | omega | (simp only [gl1, gl2]; omega)) only [go_sem, ↓reduceIte, Nat.reduceEqDiff, Nat.reduceAdd, Nat.reduceMul, Nat.reduceSub, Int.reduceToNat, Nat.reduceBEq, s1, s5, s14, s15, s16, s6, hin]
        exact ⟨_, rfl, oy.own⟩
      have hib : i < b.length := by omega
      have hib' : (i : Int) < b.length := by omega
      have hip : i < pay.length := by omega
      have hip' : (i : Int) < pay.length := by omega
      have hfs := filtL_succ (fun i => decide ((nth b i).1 = nth pay i) && decide ((nth b i).2 = 1)) i
      have hfl := filtL_len (fun i => decide ((nth b i).1 = nth pay i) && decide ((nth b i).2 = 1)) i
      obtain ⟨ys, hys⟩ : ∃ ys, ys = stopsL n pay b i := ⟨_, rfl⟩
      have hys2 : filtL (fun i => decide ((nth b i).1 = nth pay i) && decide ((nth b i).2 = 1)) i = ys := hys.symm
      rw [← hys] at oy
      rw [hys2] at hfs hfl
      have hfs3 : stopsL n pay b (i + 1) = if (decide ((nth b i).1 = nth pay i) && decide ((nth b i).2 = 1)) = true then ys ++ [(i : Int)] else ys := hfs
      have n0 : ¬ 0 = g.nx := by omega
      have l0 : 0 < g.nx + 1 := by omega
      have l1 : g.nx < g.nx + 1 := by omega
      obtain ⟨g2, hg2⟩ : ∃ g2, g2 = (g.alloc (.cells false false [I 0, I 0])).put g.nx (some (.cells false false [I (nth b i).1, I (nth b i).2])) := ⟨_, rfl⟩
      have hg2n : g2.nx = g.nx + 1 := by rw [hg2]; rfl
      have hg20 : g2.bl 0 = some (.cells false false [LLI nx, LI pay, LI cost]) := by rw [hg2, put_bl, if_neg n0, alloc_bl, if_neg n0]; exact g0
      have hg2J : g2.bl g.nx = some (.cells false false [I (nth b i).1, I (nth b i).2]) := by rw [hg2, put_bl, if_pos rfl]
      have oy2 : OwnGe 1 (e1 I) 1 g2 y ys := oy.mono (by omega) fun id _ h3 => by
        rw [hg2, put_bl, if_neg (by omega), alloc_bl, if_neg (by omega)]
      cases hc : (decide ((nth b i).1 = nth pay i) && decide ((nth b i).2 = 1)) with
      | false =>
        rw [hc] at hfs3
        have hfs4 : stopsL n pay b (i + 1) = ys := hfs3
        simp (disch := first | (simp only [go_sem, gb0, eq_self]; done) | omega | (simp only [gl1, gl2]; omega)) only [go_sem, ↓reduceIte, Nat.reduceEqDiff, Nat.reduceAdd, Nat.reduceMul, Nat.reduceSub, Int.reduceToNat, Nat.reduceBEq, s1, s5, s14, s15, s16, s6, hin, hib, hib', hip, hip', hal2, ← hg2, hg2n, hg20, hg2J, n0, l0, l1, hc, List.drop_succ_cons]
        rw [ForK_normal]
        exact ⟨hin, by simp (disch := first | (simp only [go_sem, gb0, eq_self]; done) | omega | (simp only [gl1, gl2]; omega)) only [go_sem, ↓reduceIte, Nat.reduceEqDiff, Nat.reduceAdd, Nat.reduceMul, Nat.reduceSub, Int.reduceToNat, Nat.reduceBEq, s16], by simp (disch := first | (simp only [go_sem, gb0, eq_self]; done) | omega | (simp only [gl1, gl2]; omega)) only [go_sem, ↓reduceIte, Nat.reduceEqDiff, Nat.reduceAdd, Nat.reduceMul, Nat.reduceSub, Int.reduceToNat, Nat.reduceBEq, s1], by simp (disch := first | (simp only [go_sem, gb0, eq_self]; done) | omega | (simp only [gl1, gl2]; omega)) only [go_sem, ↓reduceIte, Nat.reduceEqDiff, Nat.reduceAdd, Nat.reduceMul, Nat.reduceSub, Int.reduceToNat, Nat.reduceBEq, s5], by simp (disch := first | (simp only [go_sem, gb0, eq_self]; done) | omega | (simp only [gl1, gl2]; omega)) only [go_sem, ↓reduceIte, Nat.reduceEqDiff, Nat.reduceAdd, Nat.reduceMul, Nat.reduceSub, Int.reduceToNat, Nat.reduceBEq, s14], by simp (disch := first | (simp only [go_sem, gb0, eq_self]; done) | omega | (simp only [gl1, gl2]; omega)) only [go_sem, ↓reduceIte, Nat.reduceEqDiff, Nat.reduceAdd, Nat.reduceMul, Nat.reduceSub, Int.reduceToNat, Nat.reduceBEq, s15], by omega, hg20, y, by simp (disch := first | (simp only [go_sem, gb0, eq_self]; done) | omega | (simp only [gl1, gl2]; omega)) only [go_sem, ↓reduceIte, Nat.reduceEqDiff, Nat.reduceAdd, Nat.reduceMul, Nat.reduceSub, Int.reduceToNat, Nat.reduceBEq, s6], by rw [hfs4]; exact oy2⟩
      | true =>
        rw [hc] at hfs3
        have hfs4 : stopsL n pay b (i + 1) = ys ++ [(i : Int)] := hfs3
        have hbs := fun h => bsB_one (P := Try.prog) 3 (I i) (I i) (I 0) h isz3 izero3 rfl rfl rfl rfl rfl rfl rfl
        have happ := app_one (P := Try.prog) oy2.own 3 8 (I 0) (i : Int) isz3 ibytes3 izero3 rfl (by omega) (by omega)
        have ln : 1 ≤ (appH g2 y ((ys ++ [(i : Int)]).flatMap (e1 I))).nx := by rw [appH_nx]; omega
        have lo : OwnGe 1 (e1 I) 1 (appH g2 y ((ys ++ [(i : Int)]).flatMap (e1 I))) (appV g2 (ys ++ [(i : Int)]).length 1) (stopsL n pay b (i + 1)) := by
          rw [hfs4]
          exact OwnGe.app _ (by omega) _
        have ll0 : (appH g2 y ((ys ++ [(i : Int)]).flatMap (e1 I))).bl 0 = some (.cells false false [LLI nx, LI pay, LI cost]) := by rw [oy2.low (by omega) (by omega)]; exact hg20
        generalize appH g2 y ((ys ++ [(i : Int)]).flatMap (e1 I)) = G at *
        generalize appV g2 (ys ++ [(i : Int)]).length 1 = u at *
        simp (disch := first | (simp only [go_sem, gb0, eq_self]; done) | omega | (simp only [gl1, gl2]; omega)) only [go_sem, ↓reduceIte, Nat.reduceEqDiff, Nat.reduceAdd, Nat.reduceMul, Nat.reduceSub, Int.reduceToNat, Nat.reduceBEq, s1, s5, s14, s15, s16, s6, hin, hib, hib', hip, hip', hal2, ← hg2, hg2n, hg20, hg2J, n0, l0, l1, hc, hbs, happ, List.drop_succ_cons]
        rw [ForK_normal]
        exact ⟨hin, by simp (disch := first | (simp only [go_sem, gb0, eq_self]; done) | omega | (simp only [gl1, gl2]; omega)) only [go_sem, ↓reduceIte, Nat.reduceEqDiff, Nat.reduceAdd, Nat.reduceMul, Nat.reduceSub, Int.reduceToNat, Nat.reduceBEq, s16], by simp (disch := first | (simp only [go_sem, gb0, eq_self]; done) | omega | (simp only [gl1, gl2]; omega)) only [go_sem, ↓reduceIte, Nat.reduceEqDiff, Nat.reduceAdd, Nat.reduceMul, Nat.reduceSub, Int.reduceToNat, Nat.reduceBEq, s1], by simp (disch := first | (simp only [go_sem, gb0, eq_self]; done) | omega | (simp only [gl1, gl2]; omega)) only [go_sem, ↓reduceIte, Nat.reduceEqDiff, Nat.reduceAdd, Nat.reduceMul, Nat.reduceSub, Int.reduceToNat, Nat.reduceBEq, s5], by simp (disch := first | (simp only [go_sem, gb0, eq_self]; done) | omega | (simp only [gl1, gl2]; omega)) only [go_sem, ↓reduceIte, Nat.reduceEqDiff, Nat.reduceAdd, Nat.reduceMul, Nat.reduceSub, Int.reduceToNat, Nat.reduceBEq, s14], by simp (disch := first | (simp only [go_sem, gb0, eq_self]; done) | omega | (simp only [gl1, gl2]; omega)) only [go_sem, ↓reduceIte, Nat.reduceEqDiff, Nat.reduceAdd, Nat.reduceMul, Nat.reduceSub, Int.reduceToNat, Nat.reduceBEq, s15], ln, ll0, _, by simp (disch := first | (simp only [go_sem, gb0, eq_self]; done) | omega | (simp only [gl1, gl2]; omega)) only [go_sem, ↓reduceIte, Nat.reduceEqDiff, Nat.reduceAdd, Nat.reduceMul, Nat.reduceSub, Int.reduceToNat, Nat.reduceBEq], lo⟩
    · rintro st h ⟨s5, y, s6, oy⟩
      obtain ⟨g, hsy, _⟩ := sealA_Own oy
      simp (disch := first | (simp only [go_sem, gb0, eq_self]; done) | omega | (simp only [gl1, gl2]; omega)) only [go_sem, ↓reduceIte, Nat.reduceEqDiff, Nat.reduceAdd, Nat.reduceMul, Nat.reduceSub, Int.reduceToNat, Nat.reduceBEq, s5, s6, hsy]
end Go.Proofs.Ytgamcclfdkpcgaa

set_option linter.unusedVariables false
set_option linter.unusedSimpArgs false
set_option maxRecDepth 10000
namespace Go.Proofs.Ytgamcclfdkpcgaa
open Go Go.Am

variable {h h' : Hp} {K : AV → Hp → Prop}

theorem rdP_gcd {a b : Int} (hb : 0 < b) : gcdI (rdP a b).1 (rdP a b).2 = 1 := by
  have h : 0 < Int.gcd a b := Int.gcd_pos_of_ne_zero_right _ (by omega)
  have := Int.gcd_ediv_gcd_ediv_gcd h
  rw [rdP_pos hb]
  unfold gcdI
  rw [this]; rfl
theorem best_vb {nx : List (List Int)} {pay cost : List Int} (C : okC nx pay cost) : (bestL nx pay cost).all isVB = true := by
  obtain ⟨x, _, hs, _, he⟩ := best_is C
  have hv := (vals_of C.ch hs (by have := C.n1; omega)).pos
  refine all_nth' fun i hi => ?_
  rw [bestL_len C] at hi
  rw [he]
  have hb := val_den C hs hi
  have hg : gcdI (nth (valL nx pay cost x) i).1 (nth (valL nx pay cost x) i).2 = 1 := by rw [valL_nth pay cost x hi]; exact rdP_gcd hv
  rw [isVB, hg]
  simp only [inB, decide_true, Bool.and_true, Bool.and_eq_true, decide_eq_true_eq]
  omega
theorem stops_len (n : Nat) (pay : List Int) (b : List (Int × Int)) : (stopsL n pay b n).length ≤ n := filtL_len _ _
theorem f13_con (nx : List (List Int)) (pay cost : List Int) (hk : okN nx pay cost) : Con Try.prog cfgX 13 [chA nx pay cost] (.bool true) := by
  have ml : maxLen = 9223372036854775807 := by decide
  have hal : ∀ (g : Hp) nx pay cost, allocB g (some (chA nx pay cost)) = some (.ptr g.nx 0, g.alloc (.cells false false [LLI nx, LI pay, LI cost])) := fun g _ _ _ => allocB_agg _ rfl
  have hse : ∀ (h : Hp) nx pay cost, sealA h (chA nx pay cost) = some (chA nx pay cost, h) := fun h _ _ _ => sealA_agg _ (by simp only [AV.pureL, pure_L, Bool.and_true])
  have k17 := fun h h' K => ConW_any (h := h) (h' := h') (K := K) (liftX (by decide) (f17_con nx pay cost hk)) (by unfold chV; split <;> rfl)
  have hk2 := okN.copy nx pay cost
  generalize nxM nx = nx2 at *
  generalize listM pay = pay2 at *
  generalize listM cost = cost2 at *
  have hi3 : ∀ (h : Hp) (a : List (Int × Int)) (l : List Int) (e : Int), importR h (.tup [LP a, LI l, I e]) = (.tup [LP a, LI l, I e], h) := fun _ _ _ _ => rfl
  have hi2 : ∀ (h : Hp) (a : List (Int × Int)) (l : List Int), importR h (.tup [LP a, LI l]) = (.tup [LP a, LI l], h) := fun _ _ _ => rfl
  have z0 : ((0 : Nat) : Int) = 0 := rfl
  by_cases hn : nx2 = []
  · have hv : chV nx2 pay2 cost2 = .agg [.nil, LI pay2, LI cost2] := by rw [chV, if_pos hn]
    rw [hv] at k17
    have hi1 : ∀ h : Hp, importR h (.agg [.nil, LI pay2, LI cost2]) = (.agg [.nil, LI pay2, LI cost2], h) := fun _ => rfl
    have hse1 : ∀ h : Hp, sealA h (.agg [.nil, LI pay2, LI cost2]) = some (.agg [.nil, LI pay2, LI cost2], h) := fun h => sealA_agg _ (by simp only [AV.pureL, pure_L, Bool.and_true]; rfl)
    have hst : ∀ (g : Hp) (id : Nat), storeC g id 0 3 (some (.cells false false [.nil, .nil, .nil])) [.nil, LI pay2, LI cost2] = some (.skp, g.put id (some (.cells false false [.nil, LI pay2, LI cost2]))) := fun g id => by simp [storeC, setL, AV.isCell]
    have k16 := fun h h' K => ConW_any (h := h) (h' := h') (K := K) (f16_nil pay2 cost2) rfl
    have k30 := fun h h' K => ConW_num (h := h) (h' := h') (K := K) (liftX (by decide) (f30_nil pay2 cost2)) rfl
    have k46 := fun h h' K => ConW_num (h := h) (h' := h') (K := K) (f46_nil pay2 cost2 []) rfl
    refine Con_intro Try.func13 rfl okX13 (Nat.le_of_ble_eq_true rfl) rfl ?_
    simp only [Try.f13, Option.getD_some, initSt1]
    simp (disch := first | (simp only [go_sem, gb0, eq_self]; done) | omega | (simp only [gl1, gl2]; omega)) only [go_sem, ↓reduceIte, Nat.reduceEqDiff, Nat.reduceAdd, Nat.reduceMul, Nat.reduceSub, Int.reduceToNat, Nat.reduceBEq, hal, hse, k17, hi1, hse1, hst, k16, hi3, k30, k46, z0]
  · have hv : chV nx2 pay2 cost2 = chA nx2 pay2 cost2 := by rw [chV, if_neg hn]
    rw [hv] at k17
    have hi1 : ∀ h : Hp, importR h (chA nx2 pay2 cost2) = (chA nx2 pay2 cost2, h) := fun _ => rfl
    have hst : ∀ (g : Hp) (id : Nat), storeC g id 0 3 (some (.cells false false [.nil, .nil, .nil])) [LLI nx2, LI pay2, LI cost2] = some (.skp, g.put id (some (.cells false false [LLI nx2, LI pay2, LI cost2]))) := fun g id => by simp [storeC, setL, AV.isCell]
    have k30 := fun h h' K => ConW_num (h := h) (h' := h') (K := K) (liftX (by decide) (f30_con nx2 pay2 cost2 hk2)) rfl
    cases c1 : chB nx2 pay2 cost2 with
    | false =>
      have hr : bstR nx2 pay2 cost2 (bestL nx2 pay2 cost2) = .tup [LP [], LI [], I 2] := by rw [bstR, c1]; rfl
      have k16 := fun h h' K => ConW_any (h := h) (h' := h') (K := K) (f16_con nx2 pay2 cost2 hk2) (by rw [hr]; rfl)
      have hr2 : chkR nx2 pay2 cost2 (bestL nx2 pay2 cost2) [] = 2 := by rw [chkR, c1]; rfl
      have k46 := fun h h' K => ConW_num (h := h) (h' := h') (K := K) (f46_con nx2 pay2 cost2 hk2 [] (by simp)) rfl
      rw [hr] at k16
      rw [hr2] at k46
      rw [c1] at k30
      refine Con_intro Try.func13 rfl okX13 (Nat.le_of_ble_eq_true rfl) rfl ?_
      simp only [Try.f13, Option.getD_some, initSt1]
      simp (disch := first | (simp only [go_sem, gb0, eq_self]; done) | omega | (simp only [gl1, gl2]; omega)) only [go_sem, ↓reduceIte, Nat.reduceEqDiff, Nat.reduceAdd, Nat.reduceMul, Nat.reduceSub, Int.reduceToNat, Nat.reduceBEq, hal, hse, k17, hi1, hst, k16, hi3, k30, k46, z0]
    | true =>
      have C := okC.of c1
      have hbl := bestL_len C
      have hbv := best_vb C
      have hn6 := C.n6
      have hr : bstR nx2 pay2 cost2 (bestL nx2 pay2 cost2) = .tup [LP (bestL nx2 pay2 cost2), LI (stopsL nx2.length pay2 (bestL nx2 pay2 cost2) nx2.length), I 0] := by rw [bstR, c1]; rfl
      have k16 := fun h h' K => ConW_any (h := h) (h' := h') (K := K) (f16_con nx2 pay2 cost2 hk2) (by rw [hr]; rfl)
      have k37 := fun h h' K => ConW_any (h := h) (h' := h') (K := K) (liftX (by decide) (f37_con C)) rfl
      have k46 := fun h h' K => ConW_num (h := h) (h' := h') (K := K) (f46_con nx2 pay2 cost2 hk2 (bestL nx2 pay2 cost2) (by omega)) rfl
      have hr2 : chkR nx2 pay2 cost2 (bestL nx2 pay2 cost2) (bestL nx2 pay2 cost2) = 0 := by rw [chkR, c1, hbv, hbl]; simp
      rw [hr] at k16
      rw [hr2] at k46
      rw [c1] at k30
      have hsl := stops_len nx2.length pay2 (bestL nx2 pay2 cost2)
      generalize stopsL nx2.length pay2 (bestL nx2 pay2 cost2) nx2.length = s at *
      generalize bestL nx2 pay2 cost2 = b at *
      have k33 := fun h h' K => ConW_num (h := h) (h' := h') (K := K) (liftX (by decide) (f33_con b b (by omega) (by omega))) rfl
      have k22 := fun h h' K => ConW_num (h := h) (h' := h') (K := K) (liftX (by decide) (f22_con s s (by omega) (by omega))) rfl
      rw [decide_eq_true rfl] at k33 k22
      refine Con_intro Try.func13 rfl okX13 (Nat.le_of_ble_eq_true rfl) rfl ?_
      simp only [Try.f13, Option.getD_some, initSt1]
      simp (disch := first | (simp only [go_sem, gb0, eq_self]; done) | omega | (simp only [gl1, gl2]; omega)) only [go_sem, ↓reduceIte, Nat.reduceEqDiff, Nat.reduceAdd, Nat.reduceMul, Nat.reduceSub, Int.reduceToNat, Nat.reduceBEq, hal, hse, k17, hi1, hst, k16, hi3, hi2, k30, k37, k33, k22, k46, z0]
end Go.Proofs.Ytgamcclfdkpcgaa

set_option linter.unusedVariables false
set_option linter.unusedSimpArgs false
set_option maxRecDepth 10000
namespace Go.Proofs.Ytgamcclfdkpcgaa
open Go Go.Am

theorem filt_ok (P : Nat → Bool) (n : Nat) : ruleOK n (filtL P n) = true := by
  have hp : ((List.range n).filter P).Pairwise (· < ·) := List.Pairwise.filter _ List.pairwise_lt_range
  have hm : ∀ i (hi : i < ((List.range n).filter P).length), ((List.range n).filter P)[i] < n := fun i hi => List.mem_range.1 (List.mem_filter.1 (List.getElem_mem hi)).1
  have hl : (filtL P n).length = ((List.range n).filter P).length := by rw [filtL, List.length_map]
  have hn : ∀ i (hi : i < ((List.range n).filter P).length), nth (filtL P n) i = (((List.range n).filter P)[i] : Int) := fun i hi => by
    rw [nth, filtL, List.getElem?_map, List.getElem?_eq_getElem hi]; rfl
  rw [ruleOK]
  refine allR fun i hi => ?_
  rw [hl] at hi
  have h1 := hm i hi
  rw [posB, hn i hi, decide_eq_true (by omega), decide_eq_true (by omega)]
  by_cases h0 : i = 0
  · rw [decide_eq_true h0]; rfl
  · have h2 := (List.pairwise_iff_getElem.1 hp) (i - 1) i (by omega) hi (by omega)
    rw [hn (i - 1) (by omega), decide_eq_true (show (((List.range n).filter P)[i - 1] : Int) < _ by omega), Bool.or_true]; rfl
/-- The best values, with what they obey. -/
theorem best_all {nx : List (List Int)} {pay cost : List Int} (C : okC nx pay cost) : ∃ (V : Nat → Int) (D : Int), Bst nx.length (wF nx) (pF pay) (pF cost) V D ∧ ∀ i, i < nx.length → nth (bestL nx pay cost) i = rdP (V i) D := by
  obtain ⟨x, _, hs, hu, he⟩ := best_is C
  exact ⟨_, _, Bst.of C.ch (by have := C.n1; omega) hs hu, fun i hi => by rw [he, valL_nth pay cost x hi]⟩
theorem stop_iff {V D p : Int} (hD : 0 < D) : ((rdP V D).1 = p ∧ (rdP V D).2 = 1) ↔ V = p * D := by
  constructor
  · rintro ⟨h1, h2⟩
    have := rdP_val (a := V) hD
    rw [h1, h2, Int.mul_one] at this
    exact this.symm
  · intro h
    rw [h, rdP_whole p hD]
    exact ⟨rfl, rfl⟩
theorem stops_rule {nx : List (List Int)} {pay cost : List Int} (C : okC nx pay cost) {s : List Int} (hs : s = stopsL nx.length pay (bestL nx pay cost) nx.length) :
    ruleOK nx.length s = true ∧ sndB nx.length (wF nx) (xOf nx.length s) = true ∧ valL nx pay cost (xOf nx.length s) = bestL nx pay cost := by
  obtain ⟨V, D, b, hb⟩ := best_all C
  have hq := b.payRule C.ch (q := fun i => decide ((nth (bestL nx pay cost) i).1 = nth pay i) && decide ((nth (bestL nx pay cost) i).2 = 1)) fun i hi => by
    rw [Bool.and_eq_true, decide_eq_true_eq, decide_eq_true_eq, hb i hi, stop_iff b.pos]
  have hbit : ∀ i, i < nx.length → (decide ((nth (bestL nx pay cost) i).1 = nth pay i) && decide ((nth (bestL nx pay cost) i).2 = 1)) = ruleB (xOf nx.length s) i := fun i hi => by
    rw [xOf_bit s hi, hs, stopsL, filtL_has _ hi]
  have hsnd := sndP_congr hbit hq.1
  have hval := hq.2.congr hbit
  have hv2 := vals_of C.ch hsnd (by have := C.n1; omega)
  refine ⟨by rw [hs]; exact filt_ok _ _, sndB_iff.2 hsnd, ?_⟩
  refine list_ext_nth (by rw [valL_len, bestL_len C]) fun i hi => ?_
  rw [valL_len] at hi
  rw [valL_nth pay cost _ hi, hb i hi]
  exact rdP_cross hv2.pos b.pos (Vals.unique C.ch hsnd hv2 hval i hi)
/-- No rule is better. -/
theorem best_ge {nx : List (List Int)} {pay cost : List Int} (C : okC nx pay cost) {x : Nat} (hs : sndP nx.length (wF nx) (ruleB x)) {i : Nat} (hi : i < nx.length) : lessP (nth (bestL nx pay cost) i) (nth (valL nx pay cost x) i) = false := by
  obtain ⟨V, D, b, hb⟩ := best_all C
  have hv := vals_of C.ch hs (by have := C.n1; omega)
  have h1 := b.dom C.ch hs hv i hi
  rw [hb i hi, valL_nth pay cost x hi, lessP, decide_eq_false_iff_not]
  intro h
  have := (lessP_rd b.pos hv.pos).1 h
  omega
/-- Over a common denominator the best values are the greater of pay and going on. -/
theorem eq_alg {V D S b num den : Int} (hden : 0 < den) (h1 : num * D = V * den) (h2 : b * den = num * S) : b * D = V * S := by
  refine Int.eq_of_mul_eq_mul_right (a := den) (by omega) ?_
  have e1 : b * D * den = b * den * D := by grind
  have e2 : V * S * den = V * den * S := by grind
  rw [e1, e2, h2, ← h1]; grind
theorem sum_alg (D S : Int) (w b V : Nat → Int) : ∀ n, (∀ j, j < n → b j * D = V j * S) → sumN (fun j => w j * b j) n * D = sumN (fun j => w j * V j) n * S
  | 0, _ => by show (0 : Int) * D = 0 * S; omega
  | n + 1, h => by
    have ih := sum_alg D S w b V n fun j hj => h j (by omega)
    have hn := h n (by omega)
    show (sumN (fun j => w j * b j) n + w n * b n) * D = (sumN (fun j => w j * V j) n + w n * V n) * S
    have e1 : w n * b n * D = w n * V n * S := by rw [Int.mul_assoc, hn]; grind
    rw [Int.add_mul, Int.add_mul, ih, e1]
theorem best_eq {nx : List (List Int)} {pay cost : List Int} (C : okC nx pay cost) {S : Int} (hS : 0 < S) (b : Nat → Int) (hb : ∀ i, i < nx.length → b i * (nth (bestL nx pay cost) i).2 = (nth (bestL nx pay cost) i).1 * S) {i : Nat} (hi : i < nx.length) :
    4 * b i = max (4 * nth pay i * S) (-4 * nth cost i * S + sumN (fun j => nth (nth nx i) j * b j) nx.length) := by
  obtain ⟨V, D, B, hv⟩ := best_all C
  have hD := B.pos
  have he : ∀ j, j < nx.length → b j * D = V j * S := fun j hj => by
    have h1 := hb j hj
    rw [hv j hj] at h1
    exact eq_alg (rdP_den hD).1 (rdP_val hD) h1
  have hU := sum_alg D S (fun j => nth (nth nx i) j) b V nx.length he
  obtain ⟨s1, s2⟩ := B.sup i hi
  obtain ⟨r, _, hr⟩ := B.rule
  have hi' := he i hi
  have w1 : (fun j => wF nx i j * V j) = fun j => nth (nth nx i) j * V j := rfl
  have hor : V i = nth pay i * D ∨ 4 * V i = sumN (fun j => nth (nth nx i) j * V j) nx.length - 4 * nth cost i * D := by
    cases hri : r i with
    | true => exact .inl (hr.stop i hi hri)
    | false => exact .inr (hr.go i hi hri)
  replace s1 : nth pay i * D ≤ V i := s1
  replace s2 : sumN (fun j => nth (nth nx i) j * V j) nx.length - 4 * nth cost i * D ≤ 4 * V i := s2
  generalize sumN (fun j => nth (nth nx i) j * V j) nx.length = T at *
  generalize sumN (fun j => nth (nth nx i) j * b j) nx.length = U at *
  generalize nth pay i = p at *
  generalize nth cost i = c at *
  generalize V i = v at *
  generalize b i = x at *
  have q1 : 4 * p * S ≤ 4 * x := by
    refine Int.le_of_mul_le_mul_right (a := D) (b := 4 * p * S) (c := 4 * x) ?_ hD
    have := Int.mul_le_mul_of_nonneg_right s1 (show 0 ≤ 4 * S by omega)
    grind
  have q2 : -4 * c * S + U ≤ 4 * x := by
    refine Int.le_of_mul_le_mul_right (a := D) (b := -4 * c * S + U) (c := 4 * x) ?_ hD
    have := Int.mul_le_mul_of_nonneg_right s2 (show 0 ≤ S by omega)
    grind
  have q3 : 4 * x = 4 * p * S ∨ 4 * x = -4 * c * S + U := by
    rcases hor with h | h
    · refine .inl (Int.eq_of_mul_eq_mul_right (a := D) (by omega) ?_)
      subst h; grind
    · refine .inr (Int.eq_of_mul_eq_mul_right (a := D) (by omega) ?_)
      have e : (4 * v) * S = (T - 4 * c * D) * S := by rw [h]
      grind
  omega
theorem bC5 {n : Nat} (h : n ≤ 5) : bC n ≤ 295245000 := by
  unfold bC
  have h1 : (9 : Int) ^ n ≤ 59049 := by
    have := Nat.pow_le_pow_right (n := 9) (by decide) h
    have h9 : (9 : Nat) ^ 5 = 59049 := by decide
    have : ((9 ^ n : Nat) : Int) ≤ 59049 := by rw [h9] at this; exact Int.ofNat_le.2 this
    rwa [Int.natCast_pow] at this
  have h2 : (0 : Int) ≤ 9 ^ n := by
    have : (0 : Int) ≤ ((9 ^ n : Nat) : Int) := Int.natCast_nonneg _
    rwa [Int.natCast_pow] at this
  have h3 : (n : Int) ≤ 5 := by omega
  have h4 : (n : Int) * (1000 * 9 ^ n) ≤ 5 * (1000 * 9 ^ n) := Int.mul_le_mul_of_nonneg_right h3 (by omega)
  omega
theorem bE5 {n : Nat} (h : n ≤ 5) : bE n ≤ 32768 := by
  unfold bE
  have := Nat.pow_le_pow_right (n := 8) (by decide) h
  have h8 : (8 : Nat) ^ 5 = 32768 := by decide
  have : ((8 ^ n : Nat) : Int) ≤ 32768 := by omega
  rwa [Int.natCast_pow] at this
theorem val_small {nx : List (List Int)} {pay cost : List Int} (C : okC nx pay cost) (h5 : nx.length ≤ 5) {x : Nat} (hs : sndP nx.length (wF nx) (ruleB x)) : smB (valL nx pay cost x) := by
  intro i hi
  rw [valL_len] at hi
  rw [valL_nth pay cost x hi]
  have hv := vals_of C.ch hs (by have := C.n1; omega)
  have h1 := rdP_den (a := VN nx.length (wF nx) (pF pay) (pF cost) (ruleB x) i) hv.pos
  have h2 := DN_b C.ch hs
  have h3 := VN_b C.ch hs hi
  have h4 := bC5 h5
  have h6 := bE5 h5
  have h7 := rdP_val (a := VN nx.length (wF nx) (pF pay) (pF cost) (ruleB x) i) hv.pos
  have h8 := rdP_absN (a := VN nx.length (wF nx) (pF pay) (pF cost) (ruleB x) i) hv.pos
  refine ⟨⟨by omega, by omega⟩, ?_⟩
  unfold absI at h8; omega
end Go.Proofs.Ytgamcclfdkpcgaa

set_option linter.unusedVariables false
set_option linter.unusedSimpArgs false
set_option maxRecDepth 10000
namespace Go.Proofs.Ytgamcclfdkpcgaa
open Go Go.Am

variable {h h' : Hp} {K : AV → Hp → Prop}

/-- The common denominator so far. -/
def scaleI (B : List (Int × Int)) (S : Int) (i : Nat) : Prop := (1 ≤ S ∧ S ≤ 1048576) ∧ ∀ k, k < i → (nth B k).2 ∣ S
theorem scale_step {B : List (Int × Int)} {S : Int} {i : Nat} (h : scaleI B S i) (hd : 1 ≤ (nth B i).2 ∧ (nth B i).2 ≤ 131072) :
    (1 ≤ S / gcdI S (nth B i).2 ∧ S / gcdI S (nth B i).2 ≤ 1048576) ∧ (1 ≤ S / gcdI S (nth B i).2 * (nth B i).2 ∧ S / gcdI S (nth B i).2 * (nth B i).2 ≤ 137438953472) ∧ ∀ k, k < i + 1 → (nth B k).2 ∣ S / gcdI S (nth B i).2 * (nth B i).2 := by
  obtain ⟨⟨h1, h2⟩, hk⟩ := h
  obtain ⟨d, hdd⟩ : ∃ d, d = (nth B i).2 := ⟨_, rfl⟩
  have hdk : ∀ k, k < i + 1 → k ≠ i → (nth B k).2 ∣ S := fun k hk1 hk2 => hk k (by omega)
  rw [← hdd] at hd ⊢
  have hg := gcdI_pos (a := S) (b := d) (by omega)
  obtain ⟨⟨x, hx⟩, ⟨y, hy⟩⟩ := gcdI_dvd S d
  have hD : ∀ k, k < i + 1 → (nth B k).2 ∣ S ∨ (nth B k).2 = d := fun k hk1 => by
    by_cases e : k = i
    · subst e; exact .inr hdd.symm
    · exact .inl (hdk k hk1 e)
  generalize gcdI S d = g at *
  have e1 : S / g = x := by rw [hx]; exact Int.mul_ediv_cancel_left _ (by omega)
  have hx1 : 1 ≤ x := by
    rcases Int.lt_or_le x 1 with h | h
    · have := Int.mul_nonpos_of_nonneg_of_nonpos (show (0 : Int) ≤ g by omega) (show x ≤ 0 by omega)
      omega
    · exact h
  have hxS : x ≤ S := by
    have := Int.mul_le_mul_of_nonneg_right (show (1 : Int) ≤ g by omega) (show 0 ≤ x by omega)
    omega
  rw [e1]
  have m1 : 1 * 1 ≤ x * d := Int.mul_le_mul hx1 hd.1 (by decide) (by omega)
  have m2 : x * d ≤ 1048576 * 131072 := Int.mul_le_mul (by omega) hd.2 (by omega) (by decide)
  refine ⟨⟨hx1, by omega⟩, ⟨by omega, by omega⟩, fun k hk1 => ?_⟩
  rcases hD k hk1 with h | h
  · have : x * d = S * y := by rw [hx, hy]; grind
    rw [this]
    exact Int.dvd_trans h (Int.dvd_mul_right _ _)
  · rw [h]; exact Int.dvd_mul_left _ _
/-- The value i over the common denominator. -/
def ovr (B : List (Int × Int)) (S : Int) (i : Nat) : Int := (nth B i).1 * (S / (nth B i).2)
theorem ovr_eq {B : List (Int × Int)} {S : Int} {n i : Nat} (h : scaleI B S n) (hi : i < n) : ovr B S i * (nth B i).2 = (nth B i).1 * S := by
  have := Int.ediv_mul_cancel (h.2 i hi)
  rw [ovr, Int.mul_assoc, this]
theorem quo_bd {S d : Int} (hS : 1 ≤ S) (hd : 1 ≤ d) : 0 ≤ S / d ∧ S / d ≤ S ∧ S.tdiv d = S / d :=
  ⟨Int.ediv_nonneg (by omega) (by omega), Int.ediv_le_self _ (by omega), Int.tdiv_eq_ediv_of_nonneg (by omega)⟩
theorem mul_bd2 {a b A B : Int} (ha : -A ≤ a ∧ a ≤ A) (hb : 0 ≤ b ∧ b ≤ B) : -(A * B) ≤ a * b ∧ a * b ≤ A * B := by
  have h1 : a * b ≤ A * b := Int.mul_le_mul_of_nonneg_right ha.2 hb.1
  have h2 : -A * b ≤ a * b := Int.mul_le_mul_of_nonneg_right ha.1 hb.1
  have h3 : A * b ≤ A * B := Int.mul_le_mul_of_nonneg_left hb.2 (by omega)
  have h4 : -A * b = -(A * b) := Int.neg_mul _ _
  omega
theorem sum_bd {f : Nat → Int} {M : Int} : ∀ {n : Nat}, (∀ j, j < n → -M ≤ f j ∧ f j ≤ M) → -(n * M) ≤ sumN f n ∧ sumN f n ≤ n * M
  | 0, _ => by show -(((0 : Nat) : Int) * M) ≤ 0 ∧ 0 ≤ ((0 : Nat) : Int) * M; omega
  | n + 1, h => by
    have ih := sum_bd (f := f) (M := M) (n := n) fun j hj => h j (by omega)
    have hn := h n (by omega)
    have e : ((n + 1 : Nat) : Int) * M = n * M + M := by rw [Int.natCast_add, Int.add_mul]; show (n : Int) * M + 1 * M = _; omega
    rw [e]
    show -(n * M + M) ≤ sumN f n + f n ∧ sumN f n + f n ≤ n * M + M
    omega

theorem f9_con (nx0 : List (List Int)) (pay0 cost0 l : List Int) (hk : okN nx0 pay0 cost0) (hl : l.length ≤ maxLen) : Con Try.prog cfgX 9 [chA nx0 pay0 cost0, LI l] (.bool true) := by
  have ml : maxLen = 9223372036854775807 := by decide
  have hal : ∀ (g : Hp) nx pay cost, allocB g (some (chA nx pay cost)) = some (.ptr g.nx 0, g.alloc (.cells false false [LLI nx, LI pay, LI cost])) := fun g _ _ _ => allocB_agg _ rfl
  have hse : ∀ (h : Hp) nx pay cost, sealA h (chA nx pay cost) = some (chA nx pay cost, h) := fun h _ _ _ => sealA_agg _ (by simp only [AV.pureL, pure_L, Bool.and_true])
  obtain ⟨nx, pay, cost, ⟨c1, h4⟩, c15⟩ := f15_con nx0 pay0 cost0 hk 4 (by decide)
  replace c15 : Con Try.prog cfg 15 [chA nx0 pay0 cost0, I 4] (chA nx pay cost) := c15
  have k15 := fun h h' K => ConW_any (h := h) (h' := h') (K := K) (liftX (by decide) c15) rfl
  have C := okC.of c1
  have hn1 := C.n1
  have hk2 : okN nx pay cost := by
    have := C.lp; have := C.lc
    exact ⟨by omega, fun r hr => by obtain ⟨i, hi, rfl⟩ := List.getElem_of_mem hr; have := C.row i hi; rw [nth_getElem hi] at this; omega, by omega, by omega⟩
  have hi1 : ∀ h : Hp, importR h (chA nx pay cost) = (chA nx pay cost, h) := fun _ => rfl
  have hst : ∀ (g : Hp) (id : Nat), storeC g id 0 3 (some (.cells false false [.nil, .nil, .nil])) [LLI nx, LI pay, LI cost] = some (.skp, g.put id (some (.cells false false [LLI nx, LI pay, LI cost]))) := fun g id => by simp [storeC, setL, AV.isCell]
  have hi3 : ∀ (h : Hp) (a : List (Int × Int)) (l : List Int), importR h (.tup [LP a, LI l, I 0]) = (.tup [LP a, LI l, I 0], h) := fun _ _ _ => rfl
  have hi2 : ∀ (h : Hp) (a : List (Int × Int)) (e : Int), importR h (.tup [LP a, I e]) = (.tup [LP a, I e], h) := fun _ _ _ => rfl
  have r16 : bstR nx pay cost (bestL nx pay cost) = .tup [LP (bestL nx pay cost), LI (stopsL nx.length pay (bestL nx pay cost) nx.length), I 0] := by rw [bstR, c1]; rfl
  have k16 := fun h h' K => ConW_any (h := h) (h' := h') (K := K) (f16_con nx pay cost hk2) (by rw [r16]; rfl)
  rw [r16] at k16
  obtain ⟨s, hs⟩ : ∃ s, s = stopsL nx.length pay (bestL nx pay cost) nx.length := ⟨_, rfl⟩
  have hsl := stops_len nx.length pay (bestL nx pay cost)
  rw [← hs] at k16 hsl
  obtain ⟨so, ss, sv⟩ := stops_rule C hs
  have r29 : rulR nx pay cost s = .tup [LP (bestL nx pay cost), I 0] := by rw [rulR, c1, so, ss, sv]; rfl
  have k29 := fun h h' K => ConW_any (h := h) (h' := h') (K := K) (liftX (by decide) (f29_con nx pay cost s hk2 (by omega))) (by rw [r29]; rfl)
  rw [r29] at k29
  have hbl := bestL_len C
  have hsm := val_small C (by omega) (sndB_iff.1 ss)
  rw [sv] at hsm
  have k19 := fun h h' K => ConW_num (h := h) (h' := h') (K := K) (liftX (by decide) (f19_con (bestL nx pay cost) (by omega) hsm)) rfl
  have k33 := fun h h' K => ConW_num (h := h) (h' := h') (K := K) (liftX (by decide) (f33_con (bestL nx pay cost) (bestL nx pay cost) (by omega) (by omega))) rfl
  rw [decide_eq_true rfl] at k33
  have hbe := fun S hS b hb i hi => best_eq C (S := S) hS b hb (i := i) hi
  have hge := fun x hs i hi => best_ge C (x := x) hs (i := i) hi
  have hvs := fun x hs => val_small C (by omega) (x := x) hs
  obtain ⟨n, hn⟩ : ∃ n, n = nx.length := ⟨_, rfl⟩
  have hrow := C.row
  have hlp := C.lp
  have hlc := C.lc
  have hpb := fun i hi => C.pb (i := i) hi
  have hcb := fun i hi => C.cb (i := i) hi
  have hwb := fun i j hi hj => C.wb (i := i) (j := j) hi hj
  have k29b := fun l (hl : l.length ≤ maxLen) => f29_con nx pay cost l hk2 hl
  have hrul : ∀ l, rulR nx pay cost l = if ruleOK n l then (if sndB n (wF nx) (xOf n l) then .tup [LP (valL nx pay cost (xOf n l)), I 0] else .tup [LP [], I 6]) else .tup [LP [], I 2] := fun l => by
    rw [rulR, c1, Bool.true_and, hn]
  have hvl := fun x => valL_len nx pay cost x
  rw [hbl, ← hn] at k19
  rw [← hn] at hbl hbe hge hrow hlp hlc hpb hcb hwb hvs hvl h4 hn1
  generalize bestL nx pay cost = B at *
  refine Con_intro Try.func9 rfl okX9 (Nat.le_of_ble_eq_true rfl) rfl ?_
  simp only [Try.f9, Option.getD_some, initSt2]
  simp (disch := first | (simp only [go_sem, gb0, eq_self]; done) | omega | (simp only [gl1, gl2]; omega)) only [go_sem, ↓reduceIte, Nat.reduceEqDiff, Nat.reduceAdd, Nat.reduceMul, Nat.reduceSub, Int.reduceToNat, Nat.reduceBEq, hal, hse, k15, hi1, hst, k16, hi3, k29, hi2, ← hn, k19, k33]
  refine WP_cut (fun st h => st 1 = LI l ∧ st 5 = .ptr 1 0 ∧ st 6 = I n ∧ st 7 = LP B ∧ 2 ≤ h.nx ∧ h.bl 1 = some (.cells false false [LLI nx, LI pay, LI cost]) ∧ ∃ S, st 12 = I S ∧ scaleI B S n) ?_ ?_
  · refine WP_for 13 n (fun i st h => st 1 = LI l ∧ st 5 = .ptr 1 0 ∧ st 6 = I n ∧ st 7 = LP B ∧ 2 ≤ h.nx ∧ h.bl 1 = some (.cells false false [LLI nx, LI pay, LI cost]) ∧ ∃ S, st 12 = I S ∧ scaleI B S i) (by simp (disch := first | (simp only [go_sem, gb0, eq_self]; done) | omega | (simp only [gl1, gl2]; omega)) only [go_sem, ↓reduceIte, Nat.reduceEqDiff, Nat.reduceAdd, Nat.reduceMul, Nat.reduceSub, Int.reduceToNat, Nat.reduceBEq])
      ⟨by simp (disch := first | (simp only [go_sem, gb0, eq_self]; done) | omega | (simp only [gl1, gl2]; omega)) only [go_sem, ↓reduceIte, Nat.reduceEqDiff, Nat.reduceAdd, Nat.reduceMul, Nat.reduceSub, Int.reduceToNat, Nat.reduceBEq], by simp (disch := first | (simp only [go_sem, gb0, eq_self]; done) | omega | (simp only [gl1, gl2]; omega)) only [go_sem, ↓reduceIte, Nat.reduceEqDiff, Nat.reduceAdd, Nat.reduceMul, Nat.reduceSub, Int.reduceToNat, Nat.reduceBEq], by simp (disch := first | (simp only [go_sem, gb0, eq_self]; done) | omega | (simp only [gl1, gl2]; omega)) only [go_sem, ↓reduceIte, Nat.reduceEqDiff, Nat.reduceAdd, Nat.reduceMul, Nat.reduceSub, Int.reduceToNat, Nat.reduceBEq], by simp (disch := first | (simp only [go_sem, gb0, eq_self]; done) | omega | (simp only [gl1, gl2]; omega)) only [go_sem, ↓reduceIte, Nat.reduceEqDiff, Nat.reduceAdd, Nat.reduceMul, Nat.reduceSub, Int.reduceToNat, Nat.reduceBEq], by simp (disch := first | (simp only [go_sem, gb0, eq_self]; done) | omega | (simp only [gl1, gl2]; omega)) only [go_sem, ↓reduceIte, Nat.reduceEqDiff, Nat.reduceAdd, Nat.reduceMul, Nat.reduceSub, Int.reduceToNat, Nat.reduceBEq]; decide, by simp (disch := first | (simp only [go_sem, gb0, eq_self]; done) | omega | (simp only [gl1, gl2]; omega)) only [go_sem, ↓reduceIte, Nat.reduceEqDiff, Nat.reduceAdd, Nat.reduceMul, Nat.reduceSub, Int.reduceToNat, Nat.reduceBEq], 1, by simp (disch := first | (simp only [go_sem, gb0, eq_self]; done) | omega | (simp only [gl1, gl2]; omega)) only [go_sem, ↓reduceIte, Nat.reduceEqDiff, Nat.reduceAdd, Nat.reduceMul, Nat.reduceSub, Int.reduceToNat, Nat.reduceBEq], ⟨by decide, by decide⟩, fun k hk => by omega⟩ ?_
    rintro i st h hi s13 ⟨s1, s5, s6, s7, hnx, b1, S, s12, hS⟩
    by_cases hlt : i < n
    case neg =>
      obtain rfl : i = n := by omega
      simp (disch := first | (simp only [go_sem, gb0, eq_self]; done) | omega | (simp only [gl1, gl2]; omega)) only [go_sem, ↓reduceIte, Nat.reduceEqDiff, Nat.reduceAdd, Nat.reduceMul, Nat.reduceSub, Int.reduceToNat, Nat.reduceBEq, s1, s5, s6, s7, s12, s13, hlt]
      exact ⟨hnx, b1, S, rfl, hS⟩
    obtain ⟨⟨d1, d2⟩, _⟩ := hsm i (by omega)
    obtain ⟨⟨x1, x2⟩, ⟨y1, y2⟩, hdv⟩ := scale_step hS ⟨d1, d2⟩
    have hSb := hS.1
    have k35 := fun h h' K => ConW_num (h := h) (h' := h') (K := K) (liftX (by decide) (f35_con S (nth B i).2 (by omega) (by omega))) rfl
    have t1 := tdiv_gcd_l S (nth B i).2
    have hg := gcdI_pos (a := S) (b := (nth B i).2) (by omega)
    have hg0 : ¬ gcdI S (nth B i).2 = 0 := by omega
    have hlt' : (i : Int) < B.length := by omega
    have hlB : i < B.length := by omega
    obtain ⟨Y, hY⟩ : ∃ Y, Y = S / gcdI S (nth B i).2 * (nth B i).2 := ⟨_, rfl⟩
    rw [← hY] at y1 y2 hdv
    by_cases hbig : 1048576 < Y
    · simp (disch := first | (simp only [go_sem, gb0, eq_self]; done) | omega | (simp only [gl1, gl2]; omega)) only [go_sem, ↓reduceIte, Nat.reduceEqDiff, Nat.reduceAdd, Nat.reduceMul, Nat.reduceSub, Int.reduceToNat, Nat.reduceBEq, s1, s5, s6, s7, s12, s13, hlt, hlt', hlB, List.drop_succ_cons, k35, t1, hg0, ← hY, hbig]
    · simp (disch := first | (simp only [go_sem, gb0, eq_self]; done) | omega | (simp only [gl1, gl2]; omega)) only [go_sem, ↓reduceIte, Nat.reduceEqDiff, Nat.reduceAdd, Nat.reduceMul, Nat.reduceSub, Int.reduceToNat, Nat.reduceBEq, s1, s5, s6, s7, s12, s13, hlt, hlt', hlB, List.drop_succ_cons, k35, t1, hg0, ← hY, hbig]
      rw [ForK_normal]
      exact ⟨hlt, by simp (disch := first | (simp only [go_sem, gb0, eq_self]; done) | omega | (simp only [gl1, gl2]; omega)) only [go_sem, ↓reduceIte, Nat.reduceEqDiff, Nat.reduceAdd, Nat.reduceMul, Nat.reduceSub, Int.reduceToNat, Nat.reduceBEq, s13], by simp (disch := first | (simp only [go_sem, gb0, eq_self]; done) | omega | (simp only [gl1, gl2]; omega)) only [go_sem, ↓reduceIte, Nat.reduceEqDiff, Nat.reduceAdd, Nat.reduceMul, Nat.reduceSub, Int.reduceToNat, Nat.reduceBEq, s1], by simp (disch := first | (simp only [go_sem, gb0, eq_self]; done) | omega | (simp only [gl1, gl2]; omega)) only [go_sem, ↓reduceIte, Nat.reduceEqDiff, Nat.reduceAdd, Nat.reduceMul, Nat.reduceSub, Int.reduceToNat, Nat.reduceBEq, s5], by simp (disch := first | (simp only [go_sem, gb0, eq_self]; done) | omega | (simp only [gl1, gl2]; omega)) only [go_sem, ↓reduceIte, Nat.reduceEqDiff, Nat.reduceAdd, Nat.reduceMul, Nat.reduceSub, Int.reduceToNat, Nat.reduceBEq, s6], by simp (disch := first | (simp only [go_sem, gb0, eq_self]; done) | omega | (simp only [gl1, gl2]; omega)) only [go_sem, ↓reduceIte, Nat.reduceEqDiff, Nat.reduceAdd, Nat.reduceMul, Nat.reduceSub, Int.reduceToNat, Nat.reduceBEq, s7], by omega, b1, Y, by simp (disch := first | (simp only [go_sem, gb0, eq_self]; done) | omega | (simp only [gl1, gl2]; omega)) only [go_sem, ↓reduceIte, Nat.reduceEqDiff, Nat.reduceAdd, Nat.reduceMul, Nat.reduceSub, Int.reduceToNat, Nat.reduceBEq], ⟨y1, by omega⟩, hdv⟩
  rintro st h ⟨s1, s5, s6, s7, hnx, b1, S, s12, hS⟩
  have hSb := hS.1
  simp (disch := first | (simp only [go_sem, gb0, eq_self]; done) | omega | (simp only [gl1, gl2]; omega)) only [go_sem, ↓reduceIte, Nat.reduceEqDiff, Nat.reduceAdd, Nat.reduceMul, Nat.reduceSub, Int.reduceToNat, Nat.reduceBEq, s1, s5, s6, s7, s12]
  refine WP_cut (fun st h => st 1 = LI l ∧ st 5 = .ptr 1 0 ∧ st 6 = I n ∧ st 7 = LP B ∧ 2 ≤ h.nx ∧ h.bl 1 = some (.cells false false [LLI nx, LI pay, LI cost])) ?_ ?_
  · refine WP_for 14 n (fun i st h => st 1 = LI l ∧ st 5 = .ptr 1 0 ∧ st 6 = I n ∧ st 7 = LP B ∧ st 12 = I S ∧ 2 ≤ h.nx ∧ h.bl 1 = some (.cells false false [LLI nx, LI pay, LI cost])) (by simp (disch := first | (simp only [go_sem, gb0, eq_self]; done) | omega | (simp only [gl1, gl2]; omega)) only [go_sem, ↓reduceIte, Nat.reduceEqDiff, Nat.reduceAdd, Nat.reduceMul, Nat.reduceSub, Int.reduceToNat, Nat.reduceBEq])
      ⟨by simp (disch := first | (simp only [go_sem, gb0, eq_self]; done) | omega | (simp only [gl1, gl2]; omega)) only [go_sem, ↓reduceIte, Nat.reduceEqDiff, Nat.reduceAdd, Nat.reduceMul, Nat.reduceSub, Int.reduceToNat, Nat.reduceBEq, s1, s5, s6, s7, s12], by simp (disch := first | (simp only [go_sem, gb0, eq_self]; done) | omega | (simp only [gl1, gl2]; omega)) only [go_sem, ↓reduceIte, Nat.reduceEqDiff, Nat.reduceAdd, Nat.reduceMul, Nat.reduceSub, Int.reduceToNat, Nat.reduceBEq, s1, s5, s6, s7, s12], by simp (disch := first | (simp only [go_sem, gb0, eq_self]; done) | omega | (simp only [gl1, gl2]; omega)) only [go_sem, ↓reduceIte, Nat.reduceEqDiff, Nat.reduceAdd, Nat.reduceMul, Nat.reduceSub, Int.reduceToNat, Nat.reduceBEq, s1, s5, s6, s7, s12], by simp (disch := first | (simp only [go_sem, gb0, eq_self]; done) | omega | (simp only [gl1, gl2]; omega)) only [go_sem, ↓reduceIte, Nat.reduceEqDiff, Nat.reduceAdd, Nat.reduceMul, Nat.reduceSub, Int.reduceToNat, Nat.reduceBEq, s1, s5, s6, s7, s12], by simp (disch := first | (simp only [go_sem, gb0, eq_self]; done) | omega | (simp only [gl1, gl2]; omega)) only [go_sem, ↓reduceIte, Nat.reduceEqDiff, Nat.reduceAdd, Nat.reduceMul, Nat.reduceSub, Int.reduceToNat, Nat.reduceBEq, s1, s5, s6, s7, s12], by omega, b1⟩ ?_
    rintro i st h hi s14 ⟨s1, s5, s6, s7, s12, hnx, b1⟩
    by_cases hlt : i < n
    case neg =>
      simp (disch := first | (simp only [go_sem, gb0, eq_self]; done) | omega | (simp only [gl1, gl2]; omega)) only [go_sem, ↓reduceIte, Nat.reduceEqDiff, Nat.reduceAdd, Nat.reduceMul, Nat.reduceSub, Int.reduceToNat, Nat.reduceBEq, s1, s5, s6, s7, s12, s14, hlt]
      exact ⟨hnx, b1⟩
    have hlt' : (i : Int) < n := by omega
    have hlB : i < B.length := by omega
    have hlB' : (i : Int) < B.length := by omega
    have hlc1 : i < cost.length := by omega
    have hlc2 : (i : Int) < cost.length := by omega
    have hlp1 : i < pay.length := by omega
    have hlp2 : (i : Int) < pay.length := by omega
    have hln1 : i < nx.length := by omega
    have hln2 : (i : Int) < nx.length := by omega
    obtain ⟨⟨d1, d2⟩, d3, d4⟩ := hsm i hlB
    obtain ⟨e1, e2, e3⟩ := quo_bd hSb.1 d1
    have hd0 : ¬ (nth B i).2 = 0 := by omega
    have hxb := mul_bd2 (a := (nth B i).1) (b := S / (nth B i).2) (A := 1073741824) (B := 1048576) (by omega) (by omega)
    have hcb' := hcb i (by omega)
    have hpb' := hpb i (by omega)
    have hcS := mul_bd2 (a := -4 * nth cost i) (b := S) (A := 400) (B := 1048576) (by omega) (by omega)
    have hpS := mul_bd2 (a := 4 * nth pay i) (b := S) (A := 4000) (B := 1048576) (by omega) (by omega)
    have heq := hbe S (by omega) (ovr B S) (fun i hi => ovr_eq hS (by omega)) i (by omega)
    obtain ⟨x, hx⟩ : ∃ x, x = (nth B i).1 * (S / (nth B i).2) := ⟨_, rfl⟩
    obtain ⟨c0, hc0⟩ : ∃ c0, c0 = -4 * nth cost i * S := ⟨_, rfl⟩
    obtain ⟨p0, hp0⟩ : ∃ p0, p0 = 4 * nth pay i * S := ⟨_, rfl⟩
    obtain ⟨f, hf⟩ : ∃ f : Nat → Int, f = fun j => nth (nth nx i) j * (nth B j).1 * (S / (nth B j).2) := ⟨_, rfl⟩
    have hfs : sumN (fun j => nth (nth nx i) j * ovr B S j) n = sumN f n := sumN_congr fun j hj => by rw [hf]; unfold ovr; exact (Int.mul_assoc _ _ _).symm
    have hxo : ovr B S i = x := by rw [hx]; rfl
    rw [hfs, hxo, ← hc0, ← hp0] at heq
    rw [← hx] at hxb
    rw [← hc0] at hcS
    rw [← hp0] at hpS
    have hfj : ∀ j, j < n → (-4294967296 ≤ nth (nth nx i) j * (nth B j).1 ∧ nth (nth nx i) j * (nth B j).1 ≤ 4294967296) ∧ (-4503599627370496 ≤ f j ∧ f j ≤ 4503599627370496) := fun j hj => by
      obtain ⟨⟨q1, q2⟩, q3, q4⟩ := hsm j (by omega)
      obtain ⟨u1, u2, _⟩ := quo_bd hSb.1 q1
      have hw := hwb i j (by omega) (by omega)
      have m1 := mul_bd2 (a := (nth B j).1) (b := nth (nth nx i) j) (A := 1073741824) (B := 4) (by omega) (by omega)
      rw [Int.mul_comm (nth B j).1] at m1
      have m2 := mul_bd2 (a := nth (nth nx i) j * (nth B j).1) (b := S / (nth B j).2) (A := 4294967296) (B := 1048576) (by omega) (by omega)
      rw [hf]
      show _ ∧ (_ ≤ nth (nth nx i) j * (nth B j).1 * (S / (nth B j).2) ∧ nth (nth nx i) j * (nth B j).1 * (S / (nth B j).2) ≤ _)
      omega
    simp (disch := first | (simp only [go_sem, gb0, eq_self]; done) | omega | (simp only [gl1, gl2]; omega)) only [go_sem, ↓reduceIte, Nat.reduceEqDiff, Nat.reduceAdd, Nat.reduceMul, Nat.reduceSub, Int.reduceToNat, Nat.reduceBEq, s1, s5, s6, s7, s12, s14, hlt, hlB, hlB', List.drop_succ_cons, hd0, e3, ← hx, b1, hlc1, hlc2, ← hc0]
    refine WP_cut (fun st h => st 1 = LI l ∧ st 5 = .ptr 1 0 ∧ st 6 = I n ∧ st 7 = LP B ∧ st 12 = I S ∧ st 14 = I i ∧ st 15 = I x ∧ st 16 = I (c0 + sumN f n) ∧ 2 ≤ h.nx ∧ h.bl 1 = some (.cells false false [LLI nx, LI pay, LI cost])) ?_ ?_
    · refine WP_for 17 n (fun j st h => st 1 = LI l ∧ st 5 = .ptr 1 0 ∧ st 6 = I n ∧ st 7 = LP B ∧ st 12 = I S ∧ st 14 = I i ∧ st 15 = I x ∧ st 16 = I (c0 + sumN f j) ∧ 2 ≤ h.nx ∧ h.bl 1 = some (.cells false false [LLI nx, LI pay, LI cost])) (by simp (disch := first | (simp only [go_sem, gb0, eq_self]; done) | omega | (simp only [gl1, gl2]; omega)) only [go_sem, ↓reduceIte, Nat.reduceEqDiff, Nat.reduceAdd, Nat.reduceMul, Nat.reduceSub, Int.reduceToNat, Nat.reduceBEq])
        ⟨by simp (disch := first | (simp only [go_sem, gb0, eq_self]; done) | omega | (simp only [gl1, gl2]; omega)) only [go_sem, ↓reduceIte, Nat.reduceEqDiff, Nat.reduceAdd, Nat.reduceMul, Nat.reduceSub, Int.reduceToNat, Nat.reduceBEq, s1, s5, s6, s7, s12], by simp (disch := first | (simp only [go_sem, gb0, eq_self]; done) | omega | (simp only [gl1, gl2]; omega)) only [go_sem, ↓reduceIte, Nat.reduceEqDiff, Nat.reduceAdd, Nat.reduceMul, Nat.reduceSub, Int.reduceToNat, Nat.reduceBEq, s1, s5, s6, s7, s12], by simp (disch := first | (simp only [go_sem, gb0, eq_self]; done) | omega | (simp only [gl1, gl2]; omega)) only [go_sem, ↓reduceIte, Nat.reduceEqDiff, Nat.reduceAdd, Nat.reduceMul, Nat.reduceSub, Int.reduceToNat, Nat.reduceBEq, s1, s5, s6, s7, s12], by simp (disch := first | (simp only [go_sem, gb0, eq_self]; done) | omega | (simp only [gl1, gl2]; omega)) only [go_sem, ↓reduceIte, Nat.reduceEqDiff, Nat.reduceAdd, Nat.reduceMul, Nat.reduceSub, Int.reduceToNat, Nat.reduceBEq, s1, s5, s6, s7, s12], by simp (disch := first | (simp only [go_sem, gb0, eq_self]; done) | omega | (simp only [gl1, gl2]; omega)) only [go_sem, ↓reduceIte, Nat.reduceEqDiff, Nat.reduceAdd, Nat.reduceMul, Nat.reduceSub, Int.reduceToNat, Nat.reduceBEq, s1, s5, s6, s7, s12], by simp (disch := first | (simp only [go_sem, gb0, eq_self]; done) | omega | (simp only [gl1, gl2]; omega)) only [go_sem, ↓reduceIte, Nat.reduceEqDiff, Nat.reduceAdd, Nat.reduceMul, Nat.reduceSub, Int.reduceToNat, Nat.reduceBEq, s14], by simp (disch := first | (simp only [go_sem, gb0, eq_self]; done) | omega | (simp only [gl1, gl2]; omega)) only [go_sem, ↓reduceIte, Nat.reduceEqDiff, Nat.reduceAdd, Nat.reduceMul, Nat.reduceSub, Int.reduceToNat, Nat.reduceBEq], by simp (disch := first | (simp only [go_sem, gb0, eq_self]; done) | omega | (simp only [gl1, gl2]; omega)) only [go_sem, ↓reduceIte, Nat.reduceEqDiff, Nat.reduceAdd, Nat.reduceMul, Nat.reduceSub, Int.reduceToNat, Nat.reduceBEq]; show I c0 = I (c0 + 0); rw [Int.add_zero], hnx, b1⟩ ?_
      rintro j st h hj s17 ⟨s1, s5, s6, s7, s12, s14, s15, s16, hnx, b1⟩
      by_cases hjn : j < n
      case neg =>
        obtain rfl : j = n := by omega
        simp (disch := first | (simp only [go_sem, gb0, eq_self]; done) | omega | (simp only [gl1, gl2]; omega)) only [go_sem, ↓reduceIte, Nat.reduceEqDiff, Nat.reduceAdd, Nat.reduceMul, Nat.reduceSub, Int.reduceToNat, Nat.reduceBEq, s1, s5, s6, s7, s12, s14, s15, s16, s17, hjn]
        exact ⟨hnx, b1⟩
      have hjB : j < B.length := by omega
      have hjB' : (j : Int) < B.length := by omega
      have hjn' : (j : Int) < n := by omega
      have hr := hrow i hlt
      obtain ⟨⟨q1, q2⟩, q3, q4⟩ := hsm j (by omega)
      obtain ⟨u1, u2, u3⟩ := quo_bd hSb.1 q1
      have hq0 : ¬ (nth B j).2 = 0 := by omega
      obtain ⟨fb1, fb2⟩ := hfj j hjn
      have fj : nth (nth nx i) j * (nth B j).1 * (S / (nth B j).2) = f j := by rw [hf]
      rw [← fj] at fb2
      have sb := sum_bd (f := f) (M := 4503599627370496) (n := j) fun k hk => (hfj k (by omega)).2
      have hs1 : c0 + sumN f j + f j = c0 + sumN f (j + 1) := by show _ = c0 + (sumN f j + f j); omega
      simp (disch := first | (simp only [go_sem, gb0, eq_self]; done) | omega | (simp only [gl1, gl2]; omega)) only [go_sem, ↓reduceIte, Nat.reduceEqDiff, Nat.reduceAdd, Nat.reduceMul, Nat.reduceSub, Int.reduceToNat, Nat.reduceBEq, s1, s5, s6, s7, s12, s14, s15, s16, s17, hjn, hjn', b1, hln1, hln2, hr, hjB, hjB', List.drop_succ_cons, hq0, u3, fj, hs1]
      rw [ForK_normal]
      exact ⟨hjn, by simp (disch := first | (simp only [go_sem, gb0, eq_self]; done) | omega | (simp only [gl1, gl2]; omega)) only [go_sem, ↓reduceIte, Nat.reduceEqDiff, Nat.reduceAdd, Nat.reduceMul, Nat.reduceSub, Int.reduceToNat, Nat.reduceBEq, s17], by simp (disch := first | (simp only [go_sem, gb0, eq_self]; done) | omega | (simp only [gl1, gl2]; omega)) only [go_sem, ↓reduceIte, Nat.reduceEqDiff, Nat.reduceAdd, Nat.reduceMul, Nat.reduceSub, Int.reduceToNat, Nat.reduceBEq, s1], by simp (disch := first | (simp only [go_sem, gb0, eq_self]; done) | omega | (simp only [gl1, gl2]; omega)) only [go_sem, ↓reduceIte, Nat.reduceEqDiff, Nat.reduceAdd, Nat.reduceMul, Nat.reduceSub, Int.reduceToNat, Nat.reduceBEq, s5], by simp (disch := first | (simp only [go_sem, gb0, eq_self]; done) | omega | (simp only [gl1, gl2]; omega)) only [go_sem, ↓reduceIte, Nat.reduceEqDiff, Nat.reduceAdd, Nat.reduceMul, Nat.reduceSub, Int.reduceToNat, Nat.reduceBEq, s6], by simp (disch := first | (simp only [go_sem, gb0, eq_self]; done) | omega | (simp only [gl1, gl2]; omega)) only [go_sem, ↓reduceIte, Nat.reduceEqDiff, Nat.reduceAdd, Nat.reduceMul, Nat.reduceSub, Int.reduceToNat, Nat.reduceBEq, s7], by simp (disch := first | (simp only [go_sem, gb0, eq_self]; done) | omega | (simp only [gl1, gl2]; omega)) only [go_sem, ↓reduceIte, Nat.reduceEqDiff, Nat.reduceAdd, Nat.reduceMul, Nat.reduceSub, Int.reduceToNat, Nat.reduceBEq, s12], by simp (disch := first | (simp only [go_sem, gb0, eq_self]; done) | omega | (simp only [gl1, gl2]; omega)) only [go_sem, ↓reduceIte, Nat.reduceEqDiff, Nat.reduceAdd, Nat.reduceMul, Nat.reduceSub, Int.reduceToNat, Nat.reduceBEq, s14], by simp (disch := first | (simp only [go_sem, gb0, eq_self]; done) | omega | (simp only [gl1, gl2]; omega)) only [go_sem, ↓reduceIte, Nat.reduceEqDiff, Nat.reduceAdd, Nat.reduceMul, Nat.reduceSub, Int.reduceToNat, Nat.reduceBEq, s15], by simp (disch := first | (simp only [go_sem, gb0, eq_self]; done) | omega | (simp only [gl1, gl2]; omega)) only [go_sem, ↓reduceIte, Nat.reduceEqDiff, Nat.reduceAdd, Nat.reduceMul, Nat.reduceSub, Int.reduceToNat, Nat.reduceBEq], hnx, b1⟩
    · rintro st h ⟨s1, s5, s6, s7, s12, s14, s15, s16, hnx, b1⟩
      have sb := sum_bd (f := f) (M := 4503599627370496) (n := n) fun k hk => (hfj k (by omega)).2
      simp (disch := first | (simp only [go_sem, gb0, eq_self]; done) | omega | (simp only [gl1, gl2]; omega)) only [go_sem, ↓reduceIte, Nat.reduceEqDiff, Nat.reduceAdd, Nat.reduceMul, Nat.reduceSub, Int.reduceToNat, Nat.reduceBEq, s1, s5, s6, s7, s12, s14, s15, s16, b1, hlp1, hlp2, ← hp0, ← heq]
      rw [ForK_normal]
      exact ⟨hlt, by simp (disch := first | (simp only [go_sem, gb0, eq_self]; done) | omega | (simp only [gl1, gl2]; omega)) only [go_sem, ↓reduceIte, Nat.reduceEqDiff, Nat.reduceAdd, Nat.reduceMul, Nat.reduceSub, Int.reduceToNat, Nat.reduceBEq, s14], by simp (disch := first | (simp only [go_sem, gb0, eq_self]; done) | omega | (simp only [gl1, gl2]; omega)) only [go_sem, ↓reduceIte, Nat.reduceEqDiff, Nat.reduceAdd, Nat.reduceMul, Nat.reduceSub, Int.reduceToNat, Nat.reduceBEq, s1], by simp (disch := first | (simp only [go_sem, gb0, eq_self]; done) | omega | (simp only [gl1, gl2]; omega)) only [go_sem, ↓reduceIte, Nat.reduceEqDiff, Nat.reduceAdd, Nat.reduceMul, Nat.reduceSub, Int.reduceToNat, Nat.reduceBEq, s5], by simp (disch := first | (simp only [go_sem, gb0, eq_self]; done) | omega | (simp only [gl1, gl2]; omega)) only [go_sem, ↓reduceIte, Nat.reduceEqDiff, Nat.reduceAdd, Nat.reduceMul, Nat.reduceSub, Int.reduceToNat, Nat.reduceBEq, s6], by simp (disch := first | (simp only [go_sem, gb0, eq_self]; done) | omega | (simp only [gl1, gl2]; omega)) only [go_sem, ↓reduceIte, Nat.reduceEqDiff, Nat.reduceAdd, Nat.reduceMul, Nat.reduceSub, Int.reduceToNat, Nat.reduceBEq, s7], by simp (disch := first | (simp only [go_sem, gb0, eq_self]; done) | omega | (simp only [gl1, gl2]; omega)) only [go_sem, ↓reduceIte, Nat.reduceEqDiff, Nat.reduceAdd, Nat.reduceMul, Nat.reduceSub, Int.reduceToNat, Nat.reduceBEq, s12], hnx, b1⟩
  rintro st h ⟨s1, s5, s6, s7, hnx, b1⟩
  simp (disch := first | (simp only [go_sem, gb0, eq_self]; done) | omega | (simp only [gl1, gl2]; omega)) only [go_sem, ↓reduceIte, Nat.reduceEqDiff, Nat.reduceAdd, Nat.reduceMul, Nat.reduceSub, Int.reduceToNat, Nat.reduceBEq, s1, s5, s6, s7]
  obtain ⟨Q, hQ⟩ : ∃ Q : Nat → Bool, Q = fun i => decide (modI (nth l i) 2 = 1) := ⟨_, rfl⟩
  refine WP_cut (fun st h => st 1 = LI l ∧ st 5 = .ptr 1 0 ∧ st 6 = I n ∧ st 7 = LP B ∧ 2 ≤ h.nx ∧ h.bl 1 = some (.cells false false [LLI nx, LI pay, LI cost]) ∧ ∃ v, st 18 = v ∧ OwnGe 2 (e1 I) 1 h v (filtL Q n)) ?_ ?_
  · refine WP_for 19 n (fun i st h => st 1 = LI l ∧ st 5 = .ptr 1 0 ∧ st 6 = I n ∧ st 7 = LP B ∧ 2 ≤ h.nx ∧ h.bl 1 = some (.cells false false [LLI nx, LI pay, LI cost]) ∧ ∃ v, st 18 = v ∧ OwnGe 2 (e1 I) 1 h v (filtL Q i)) (by simp (disch := first | (simp only [go_sem, gb0, eq_self]; done) | omega | (simp only [gl1, gl2]; omega)) only [go_sem, ↓reduceIte, Nat.reduceEqDiff, Nat.reduceAdd, Nat.reduceMul, Nat.reduceSub, Int.reduceToNat, Nat.reduceBEq])
      ⟨by simp (disch := first | (simp only [go_sem, gb0, eq_self]; done) | omega | (simp only [gl1, gl2]; omega)) only [go_sem, ↓reduceIte, Nat.reduceEqDiff, Nat.reduceAdd, Nat.reduceMul, Nat.reduceSub, Int.reduceToNat, Nat.reduceBEq, s1, s5, s6, s7], by simp (disch := first | (simp only [go_sem, gb0, eq_self]; done) | omega | (simp only [gl1, gl2]; omega)) only [go_sem, ↓reduceIte, Nat.reduceEqDiff, Nat.reduceAdd, Nat.reduceMul, Nat.reduceSub, Int.reduceToNat, Nat.reduceBEq, s1, s5, s6, s7], by simp (disch := first | (simp only [go_sem, gb0, eq_self]; done) | omega | (simp only [gl1, gl2]; omega)) only [go_sem, ↓reduceIte, Nat.reduceEqDiff, Nat.reduceAdd, Nat.reduceMul, Nat.reduceSub, Int.reduceToNat, Nat.reduceBEq, s1, s5, s6, s7], by simp (disch := first | (simp only [go_sem, gb0, eq_self]; done) | omega | (simp only [gl1, gl2]; omega)) only [go_sem, ↓reduceIte, Nat.reduceEqDiff, Nat.reduceAdd, Nat.reduceMul, Nat.reduceSub, Int.reduceToNat, Nat.reduceBEq, s1, s5, s6, s7], hnx, b1, .nil, by simp (disch := first | (simp only [go_sem, gb0, eq_self]; done) | omega | (simp only [gl1, gl2]; omega)) only [go_sem, ↓reduceIte, Nat.reduceEqDiff, Nat.reduceAdd, Nat.reduceMul, Nat.reduceSub, Int.reduceToNat, Nat.reduceBEq], .inl ⟨rfl, rfl⟩⟩ ?_
    rintro i st h hi s19 ⟨s1, s5, s6, s7, hnx, b1, v, s18, ov⟩
    by_cases hlt : i < n
    case neg =>
      obtain rfl : i = n := by omega
      simp (disch := first | (simp only [go_sem, gb0, eq_self]; done) | omega | (simp only [gl1, gl2]; omega)) only [go_sem, ↓reduceIte, Nat.reduceEqDiff, Nat.reduceAdd, Nat.reduceMul, Nat.reduceSub, Int.reduceToNat, Nat.reduceBEq, s1, s5, s6, s7, s18, s19, hlt]
      exact ⟨hnx, b1, _, rfl, ov⟩
    have k36 := fun h h' K => ConW_num (h := h) (h' := h') (K := K) (liftX (by decide) (f36_con l hl i)) rfl
    have k18 := fun h h' K => ConW_num (h := h) (h' := h') (K := K) (liftX (by decide) (f18_con (nth l i) 2 (by decide))) rfl
    have hfs := filtL_succ Q i
    have hfl := filtL_len Q i
    by_cases hb : modI (nth l i) 2 = 1
    · have hQi : Q i = true := by rw [hQ]; exact decide_eq_true hb
      rw [hQi] at hfs
      have hfs' : filtL Q (i + 1) = filtL Q i ++ [(i : Int)] := hfs
      have hbs := fun h => bsB_one (P := Try.prog) 3 (I i) (I i) (I 0) h isz3 izero3 rfl rfl rfl rfl rfl rfl rfl
      have happ := app_one (P := Try.prog) ov.own 3 8 (I 0) (i : Int) isz3 ibytes3 izero3 rfl (by omega) (by omega)
      have ln : (appH h v ((filtL Q i ++ [(i : Int)]).flatMap (e1 I))).nx = h.nx + 1 := appH_nx _ _ _
      have lo : OwnGe 2 (e1 I) 1 (appH h v ((filtL Q i ++ [(i : Int)]).flatMap (e1 I))) (appV h (filtL Q i ++ [(i : Int)]).length 1) (filtL Q (i + 1)) := by
        rw [hfs']
        exact OwnGe.app _ hnx _
      have ll : (appH h v ((filtL Q i ++ [(i : Int)]).flatMap (e1 I))).bl 1 = some (.cells false false [LLI nx, LI pay, LI cost]) := by
        rw [ov.low (by omega) (by omega)]; exact b1
      generalize appH h v ((filtL Q i ++ [(i : Int)]).flatMap (e1 I)) = G at *
      generalize appV h (filtL Q i ++ [(i : Int)]).length 1 = u at *
      simp (disch := first | (simp only [go_sem, gb0, eq_self]; done) | omega | (simp only [gl1, gl2]; omega)) only [go_sem, ↓reduceIte, Nat.reduceEqDiff, Nat.reduceAdd, Nat.reduceMul, Nat.reduceSub, Int.reduceToNat, Nat.reduceBEq, s1, s5, s6, s7, s18, s19, hlt, k36, k18, hb, hbs, happ]
      rw [ForK_normal]
      exact ⟨hlt, by simp (disch := first | (simp only [go_sem, gb0, eq_self]; done) | omega | (simp only [gl1, gl2]; omega)) only [go_sem, ↓reduceIte, Nat.reduceEqDiff, Nat.reduceAdd, Nat.reduceMul, Nat.reduceSub, Int.reduceToNat, Nat.reduceBEq, s19], by simp (disch := first | (simp only [go_sem, gb0, eq_self]; done) | omega | (simp only [gl1, gl2]; omega)) only [go_sem, ↓reduceIte, Nat.reduceEqDiff, Nat.reduceAdd, Nat.reduceMul, Nat.reduceSub, Int.reduceToNat, Nat.reduceBEq, s1], by simp (disch := first | (simp only [go_sem, gb0, eq_self]; done) | omega | (simp only [gl1, gl2]; omega)) only [go_sem, ↓reduceIte, Nat.reduceEqDiff, Nat.reduceAdd, Nat.reduceMul, Nat.reduceSub, Int.reduceToNat, Nat.reduceBEq, s5], by simp (disch := first | (simp only [go_sem, gb0, eq_self]; done) | omega | (simp only [gl1, gl2]; omega)) only [go_sem, ↓reduceIte, Nat.reduceEqDiff, Nat.reduceAdd, Nat.reduceMul, Nat.reduceSub, Int.reduceToNat, Nat.reduceBEq, s6], by simp (disch := first | (simp only [go_sem, gb0, eq_self]; done) | omega | (simp only [gl1, gl2]; omega)) only [go_sem, ↓reduceIte, Nat.reduceEqDiff, Nat.reduceAdd, Nat.reduceMul, Nat.reduceSub, Int.reduceToNat, Nat.reduceBEq, s7], by omega, ll, _, by simp (disch := first | (simp only [go_sem, gb0, eq_self]; done) | omega | (simp only [gl1, gl2]; omega)) only [go_sem, ↓reduceIte, Nat.reduceEqDiff, Nat.reduceAdd, Nat.reduceMul, Nat.reduceSub, Int.reduceToNat, Nat.reduceBEq], lo⟩
    · have hQi : Q i = false := by rw [hQ]; exact decide_eq_false hb
      rw [hQi] at hfs
      have hfs' : filtL Q (i + 1) = filtL Q i := hfs
      simp (disch := first | (simp only [go_sem, gb0, eq_self]; done) | omega | (simp only [gl1, gl2]; omega)) only [go_sem, ↓reduceIte, Nat.reduceEqDiff, Nat.reduceAdd, Nat.reduceMul, Nat.reduceSub, Int.reduceToNat, Nat.reduceBEq, s1, s5, s6, s7, s18, s19, hlt, k36, k18, hb]
      rw [ForK_normal]
      exact ⟨hlt, by simp (disch := first | (simp only [go_sem, gb0, eq_self]; done) | omega | (simp only [gl1, gl2]; omega)) only [go_sem, ↓reduceIte, Nat.reduceEqDiff, Nat.reduceAdd, Nat.reduceMul, Nat.reduceSub, Int.reduceToNat, Nat.reduceBEq, s19], by simp (disch := first | (simp only [go_sem, gb0, eq_self]; done) | omega | (simp only [gl1, gl2]; omega)) only [go_sem, ↓reduceIte, Nat.reduceEqDiff, Nat.reduceAdd, Nat.reduceMul, Nat.reduceSub, Int.reduceToNat, Nat.reduceBEq, s1], by simp (disch := first | (simp only [go_sem, gb0, eq_self]; done) | omega | (simp only [gl1, gl2]; omega)) only [go_sem, ↓reduceIte, Nat.reduceEqDiff, Nat.reduceAdd, Nat.reduceMul, Nat.reduceSub, Int.reduceToNat, Nat.reduceBEq, s5], by simp (disch := first | (simp only [go_sem, gb0, eq_self]; done) | omega | (simp only [gl1, gl2]; omega)) only [go_sem, ↓reduceIte, Nat.reduceEqDiff, Nat.reduceAdd, Nat.reduceMul, Nat.reduceSub, Int.reduceToNat, Nat.reduceBEq, s6], by simp (disch := first | (simp only [go_sem, gb0, eq_self]; done) | omega | (simp only [gl1, gl2]; omega)) only [go_sem, ↓reduceIte, Nat.reduceEqDiff, Nat.reduceAdd, Nat.reduceMul, Nat.reduceSub, Int.reduceToNat, Nat.reduceBEq, s7], hnx, b1, v, by simp (disch := first | (simp only [go_sem, gb0, eq_self]; done) | omega | (simp only [gl1, gl2]; omega)) only [go_sem, ↓reduceIte, Nat.reduceEqDiff, Nat.reduceAdd, Nat.reduceMul, Nat.reduceSub, Int.reduceToNat, Nat.reduceBEq, s18], by rw [hfs']; exact ov⟩
  rintro st h ⟨s1, s5, s6, s7, hnx, b1, v0, s18, ov⟩
  obtain ⟨g0, hse2, _⟩ := sealA_Own ov.own
  have hfl := filtL_len Q n
  have hro := filt_ok Q n
  generalize filtL Q n = rl at *
  have hrr := hrul rl
  rw [hro] at hrr
  have z6 : ¬ (6 : Int) = 0 := by decide
  cases c2 : sndB n (wF nx) (xOf n rl) with
  | false =>
    have hr : rulR nx pay cost rl = .tup [LP [], I 6] := by rw [hrr, c2]; rfl
    have k29c := fun h h' K => ConW_any (h := h) (h' := h') (K := K) (liftX (by decide) (k29b rl (by omega))) (by rw [hr]; rfl)
    rw [hr] at k29c
    simp (disch := first | (simp only [go_sem, gb0, eq_self]; done) | omega | (simp only [gl1, gl2]; omega)) only [go_sem, ↓reduceIte, Nat.reduceEqDiff, Nat.reduceAdd, Nat.reduceMul, Nat.reduceSub, Int.reduceToNat, Nat.reduceBEq, s1, s5, s6, s7, s18, b1, hse, hse2, k29c, hi2, z6]
  | true =>
    have hr : rulR nx pay cost rl = .tup [LP (valL nx pay cost (xOf n rl)), I 0] := by rw [hrr, c2]; rfl
    have k29c := fun h h' K => ConW_any (h := h) (h' := h') (K := K) (liftX (by decide) (k29b rl (by omega))) (by rw [hr]; rfl)
    rw [hr] at k29c
    have hs2 := sndB_iff.1 c2
    have hge' := hge _ hs2
    have hvs' := hvs _ hs2
    have hvl' := hvl (xOf n rl)
    generalize valL nx pay cost (xOf n rl) = v at *
    have k19b := fun h h' K => ConW_num (h := h) (h' := h') (K := K) (liftX (by decide) (f19_con v (by omega) hvs')) rfl
    rw [hvl'] at k19b
    simp (disch := first | (simp only [go_sem, gb0, eq_self]; done) | omega | (simp only [gl1, gl2]; omega)) only [go_sem, ↓reduceIte, Nat.reduceEqDiff, Nat.reduceAdd, Nat.reduceMul, Nat.reduceSub, Int.reduceToNat, Nat.reduceBEq, s1, s5, s6, s7, s18, b1, hse, hse2, k29c, hi2, k19b]
    refine WP_for 22 n (fun i st h => st 6 = I n ∧ st 7 = LP B ∧ st 20 = LP v) (by simp (disch := first | (simp only [go_sem, gb0, eq_self]; done) | omega | (simp only [gl1, gl2]; omega)) only [go_sem, ↓reduceIte, Nat.reduceEqDiff, Nat.reduceAdd, Nat.reduceMul, Nat.reduceSub, Int.reduceToNat, Nat.reduceBEq]) ⟨by simp (disch := first | (simp only [go_sem, gb0, eq_self]; done) | omega | (simp only [gl1, gl2]; omega)) only [go_sem, ↓reduceIte, Nat.reduceEqDiff, Nat.reduceAdd, Nat.reduceMul, Nat.reduceSub, Int.reduceToNat, Nat.reduceBEq, s6], by simp (disch := first | (simp only [go_sem, gb0, eq_self]; done) | omega | (simp only [gl1, gl2]; omega)) only [go_sem, ↓reduceIte, Nat.reduceEqDiff, Nat.reduceAdd, Nat.reduceMul, Nat.reduceSub, Int.reduceToNat, Nat.reduceBEq, s7], by simp (disch := first | (simp only [go_sem, gb0, eq_self]; done) | omega | (simp only [gl1, gl2]; omega)) only [go_sem, ↓reduceIte, Nat.reduceEqDiff, Nat.reduceAdd, Nat.reduceMul, Nat.reduceSub, Int.reduceToNat, Nat.reduceBEq]⟩ ?_
    rintro i st h hi s22 ⟨s6, s7, s20⟩
    by_cases hlt : i < n
    case neg =>
      simp (disch := first | (simp only [go_sem, gb0, eq_self]; done) | omega | (simp only [gl1, gl2]; omega)) only [go_sem, ↓reduceIte, Nat.reduceEqDiff, Nat.reduceAdd, Nat.reduceMul, Nat.reduceSub, Int.reduceToNat, Nat.reduceBEq, s6, s7, s20, s22, hlt]
    obtain ⟨⟨d1, d2⟩, d3, d4⟩ := hsm i (by omega)
    obtain ⟨⟨u1, u2⟩, u3, u4⟩ := hvs' i (by omega)
    have m1 := mul_bd2 (a := (nth B i).1) (b := (nth v i).2) (A := 1073741824) (B := 131072) (by omega) (by omega)
    have m2 := mul_bd2 (a := (nth v i).1) (b := (nth B i).2) (A := 1073741824) (B := 131072) (by omega) (by omega)
    have k20 := fun h h' K => ConW_num (h := h) (h' := h') (K := K) (liftX (by decide) (f20_con (nth B i) (nth v i) (by simp only [big]; omega) (by simp only [big]; omega))) rfl
    rw [hge' i hlt] at k20
    have hlB : i < B.length := by omega
    have hlB' : (i : Int) < B.length := by omega
    have hlv : i < v.length := by omega
    have hlv' : (i : Int) < v.length := by omega
    simp (disch := first | (simp only [go_sem, gb0, eq_self]; done) | omega | (simp only [gl1, gl2]; omega)) only [go_sem, ↓reduceIte, Nat.reduceEqDiff, Nat.reduceAdd, Nat.reduceMul, Nat.reduceSub, Int.reduceToNat, Nat.reduceBEq, s6, s7, s20, s22, hlt, hlB, hlB', hlv, hlv', k20]
    rw [ForK_normal]
    exact ⟨hlt, by simp (disch := first | (simp only [go_sem, gb0, eq_self]; done) | omega | (simp only [gl1, gl2]; omega)) only [go_sem, ↓reduceIte, Nat.reduceEqDiff, Nat.reduceAdd, Nat.reduceMul, Nat.reduceSub, Int.reduceToNat, Nat.reduceBEq, s22], by simp (disch := first | (simp only [go_sem, gb0, eq_self]; done) | omega | (simp only [gl1, gl2]; omega)) only [go_sem, ↓reduceIte, Nat.reduceEqDiff, Nat.reduceAdd, Nat.reduceMul, Nat.reduceSub, Int.reduceToNat, Nat.reduceBEq, s6], by simp (disch := first | (simp only [go_sem, gb0, eq_self]; done) | omega | (simp only [gl1, gl2]; omega)) only [go_sem, ↓reduceIte, Nat.reduceEqDiff, Nat.reduceAdd, Nat.reduceMul, Nat.reduceSub, Int.reduceToNat, Nat.reduceBEq, s7], by simp (disch := first | (simp only [go_sem, gb0, eq_self]; done) | omega | (simp only [gl1, gl2]; omega)) only [go_sem, ↓reduceIte, Nat.reduceEqDiff, Nat.reduceAdd, Nat.reduceMul, Nat.reduceSub, Int.reduceToNat, Nat.reduceBEq, s20]⟩
end Go.Proofs.Ytgamcclfdkpcgaa
