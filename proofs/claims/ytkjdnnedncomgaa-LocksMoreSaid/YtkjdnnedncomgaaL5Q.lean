/-
  The reference's checks of plans and cuts.
-/
import Derived.Test.YtkjdnnedncomgaaL5O
set_option linter.unusedVariables false
set_option linter.unusedSimpArgs false
set_option maxRecDepth 10000
namespace Go.Proofs.Ytkjdnnedncomgaa
open Go Go.Am

variable {h h' : Hp} {K : AV → Hp → Prop}

def rowOk (a : List (List Int)) (lo hi : Int) (r : List Int) : Bool := decide (r.length = (nth a 0).length) && r.all fun x => decide (lo ≤ x ∧ x ≤ hi)

theorem f21_con (a : List (List Int)) (ha : okLL a) : Con Try.prog cfg 21 [LLI a] (.bool (isPlanB a)) := by
  have hlen := ha.1
  refine Con_intro Try.func21 rfl ok21 (Nat.le_of_ble_eq_true rfl) rfl ?_
  simp only [Try.f21, Option.getD_some, initSt1]
  by_cases h1 : (a.length : Int) < 1
  · have q2 : isPlanB a = false := by simp only [isPlanB]; rw [decide_eq_false (by omega)]; rfl
    simp (disch := first | (simp only [go_sem, Bool.and_self, eq_self]; done) | omega | (simp only [List.length_cons, List.length_nil]; omega)) only [go_sem, ↓reduceIte, Nat.reduceEqDiff, Nat.reduceAdd, Nat.reduceMul, Nat.reduceSub, Int.reduceToNat, h1, q2]
  by_cases h2 : (6 : Int) < a.length
  · have q2 : isPlanB a = false := by simp only [isPlanB]; rw [decide_eq_false (by omega)]; rfl
    simp (disch := first | (simp only [go_sem, Bool.and_self, eq_self]; done) | omega | (simp only [List.length_cons, List.length_nil]; omega)) only [go_sem, ↓reduceIte, Nat.reduceEqDiff, Nat.reduceAdd, Nat.reduceMul, Nat.reduceSub, Int.reduceToNat, h1, h2, q2]
  simp (disch := first | (simp only [go_sem, Bool.and_self, eq_self]; done) | omega | (simp only [List.length_cons, List.length_nil]; omega)) only [go_sem, ↓reduceIte, Nat.reduceEqDiff, Nat.reduceAdd, Nat.reduceMul, Nat.reduceSub, Int.reduceToNat, h1, h2]
  refine WP_for 3 a.length (fun i st h => st 0 = LLI a ∧ (0 < i → 1 ≤ (nth a 0).length ∧ (nth a 0).length ≤ 6) ∧ ∀ j, j < i → rowOk a 0 1 (nth a j) = true) (by simp (disch := first | (simp only [go_sem, Bool.and_self, eq_self]; done) | omega | (simp only [List.length_cons, List.length_nil]; omega)) only [go_sem, ↓reduceIte, Nat.reduceEqDiff, Nat.reduceAdd, Nat.reduceMul, Nat.reduceSub, Int.reduceToNat]) ⟨by simp (disch := first | (simp only [go_sem, Bool.and_self, eq_self]; done) | omega | (simp only [List.length_cons, List.length_nil]; omega)) only [go_sem, ↓reduceIte, Nat.reduceEqDiff, Nat.reduceAdd, Nat.reduceMul, Nat.reduceSub, Int.reduceToNat], by omega, by omega⟩ ?_
  rintro i st h hi s3 ⟨s0, hz, hn⟩
  by_cases hlt : i < a.length
  case neg =>
    have : isPlanB a = true := by
      simp only [isPlanB, Bool.and_eq_true, decide_eq_true_eq]
      exact ⟨⟨by omega, hz (by omega)⟩, all_of_nth fun j hj => by have := hn j (by omega); simpa only [rowOk, Bool.and_eq_true, decide_eq_true_eq] using this⟩
    simp (disch := first | (simp only [go_sem, Bool.and_self, eq_self]; done) | omega | (simp only [List.length_cons, List.length_nil]; omega)) only [go_sem, ↓reduceIte, Nat.reduceEqDiff, Nat.reduceAdd, Nat.reduceMul, Nat.reduceSub, Int.reduceToNat, s3, s0, hlt, this]
  have bad : rowOk a 0 1 (nth a i) = false → isPlanB a = false := by
    intro hb
    have h8 := not_all_of (p := rowOk a 0 1) hlt hb
    show (_ && a.all (rowOk a 0 1)) = false
    rw [h8, Bool.and_false]
  have bad2 : ¬ (1 ≤ (nth a 0).length ∧ (nth a 0).length ≤ 6) → isPlanB a = false := by
    intro hb
    simp only [isPlanB, decide_eq_false hb, Bool.and_false, Bool.false_and]
  by_cases h3 : ((nth a i).length : Int) < 1
  · have q : isPlanB a = false := by
      by_cases e : (nth a i).length = (nth a 0).length
      · exact bad2 (by omega)
      · exact bad (by simp only [rowOk, decide_eq_false e, Bool.false_and])
    simp (disch := first | (simp only [go_sem, Bool.and_self, eq_self]; done) | omega | (simp only [List.length_cons, List.length_nil]; omega)) only [go_sem, ↓reduceIte, Nat.reduceEqDiff, Nat.reduceAdd, Nat.reduceMul, Nat.reduceSub, Int.reduceToNat, s3, s0, hlt, h3, q]
  by_cases h4 : (6 : Int) < (nth a i).length
  · have q : isPlanB a = false := by
      by_cases e : (nth a i).length = (nth a 0).length
      · exact bad2 (by omega)
      · exact bad (by simp only [rowOk, decide_eq_false e, Bool.false_and])
    simp (disch := first | (simp only [go_sem, Bool.and_self, eq_self]; done) | omega | (simp only [List.length_cons, List.length_nil]; omega)) only [go_sem, ↓reduceIte, Nat.reduceEqDiff, Nat.reduceAdd, Nat.reduceMul, Nat.reduceSub, Int.reduceToNat, s3, s0, hlt, h3, h4, q]
  by_cases h5 : (nth a i).length = (nth a 0).length
  case neg =>
    have q : isPlanB a = false := bad (by simp only [rowOk, decide_eq_false h5, Bool.false_and])
    simp (disch := first | (simp only [go_sem, Bool.and_self, eq_self]; done) | omega | (simp only [List.length_cons, List.length_nil]; omega)) only [go_sem, ↓reduceIte, Nat.reduceEqDiff, Nat.reduceAdd, Nat.reduceMul, Nat.reduceSub, Int.reduceToNat, s3, s0, hlt, h3, h4, h5, q]
  rw [h5] at h3 h4
  simp (disch := first | (simp only [go_sem, Bool.and_self, eq_self]; done) | omega | (simp only [List.length_cons, List.length_nil]; omega)) only [go_sem, ↓reduceIte, Nat.reduceEqDiff, Nat.reduceAdd, Nat.reduceMul, Nat.reduceSub, Int.reduceToNat, s3, s0, hlt, h3, h4, h5]
  refine WP_cut (fun st h => st 0 = LLI a ∧ st 3 = I i ∧ ((nth a i).all fun x => decide (0 ≤ x ∧ x ≤ 1)) = true) ?_ ?_
  · refine WP_for 4 (nth a i).length (fun j st h => st 0 = LLI a ∧ st 3 = I i ∧ ∀ c, c < j → 0 ≤ at2 a i c ∧ at2 a i c ≤ 1) (by simp (disch := first | (simp only [go_sem, Bool.and_self, eq_self]; done) | omega | (simp only [List.length_cons, List.length_nil]; omega)) only [go_sem, ↓reduceIte, Nat.reduceEqDiff, Nat.reduceAdd, Nat.reduceMul, Nat.reduceSub, Int.reduceToNat]) ⟨by simp (disch := first | (simp only [go_sem, Bool.and_self, eq_self]; done) | omega | (simp only [List.length_cons, List.length_nil]; omega)) only [go_sem, ↓reduceIte, Nat.reduceEqDiff, Nat.reduceAdd, Nat.reduceMul, Nat.reduceSub, Int.reduceToNat, s0], by simp (disch := first | (simp only [go_sem, Bool.and_self, eq_self]; done) | omega | (simp only [List.length_cons, List.length_nil]; omega)) only [go_sem, ↓reduceIte, Nat.reduceEqDiff, Nat.reduceAdd, Nat.reduceMul, Nat.reduceSub, Int.reduceToNat, s3], by omega⟩ ?_
    rintro j st h hj s4 ⟨s0, s3, hc⟩
    by_cases hjt : j < (nth a i).length
    case neg =>
      simp (disch := first | (simp only [go_sem, Bool.and_self, eq_self]; done) | omega | (simp only [List.length_cons, List.length_nil]; omega)) only [go_sem, ↓reduceIte, Nat.reduceEqDiff, Nat.reduceAdd, Nat.reduceMul, Nat.reduceSub, Int.reduceToNat, s4, s3, s0, hlt, hjt]
      exact all_of_nth fun c hc' => by simp only [decide_eq_true_eq]; exact hc c (by omega)
    have badx : ¬ (0 ≤ at2 a i j ∧ at2 a i j ≤ 1) → isPlanB a = false := by
      intro hb
      refine bad ?_
      have := not_all_of (p := fun x => decide (0 ≤ x ∧ x ≤ 1)) hjt (decide_eq_false hb)
      simp only [rowOk, this, Bool.and_false]
    by_cases h6 : at2 a i j < 0
    · have q := badx (by omega)
      simp (disch := first | (simp only [go_sem, Bool.and_self, eq_self]; done) | omega | (simp only [List.length_cons, List.length_nil]; omega)) only [go_sem, ↓reduceIte, Nat.reduceEqDiff, Nat.reduceAdd, Nat.reduceMul, Nat.reduceSub, Int.reduceToNat, s4, s3, s0, hlt, hjt, h6, q]
    by_cases h7 : 1 < at2 a i j
    · have q := badx (by omega)
      simp (disch := first | (simp only [go_sem, Bool.and_self, eq_self]; done) | omega | (simp only [List.length_cons, List.length_nil]; omega)) only [go_sem, ↓reduceIte, Nat.reduceEqDiff, Nat.reduceAdd, Nat.reduceMul, Nat.reduceSub, Int.reduceToNat, s4, s3, s0, hlt, hjt, h6, h7, q]
    simp (disch := first | (simp only [go_sem, Bool.and_self, eq_self]; done) | omega | (simp only [List.length_cons, List.length_nil]; omega)) only [go_sem, ↓reduceIte, Nat.reduceEqDiff, Nat.reduceAdd, Nat.reduceMul, Nat.reduceSub, Int.reduceToNat, s4, s3, s0, hlt, hjt, h6, h7]
    rw [ForK_normal]
    refine ⟨hjt, by simp (disch := first | (simp only [go_sem, Bool.and_self, eq_self]; done) | omega | (simp only [List.length_cons, List.length_nil]; omega)) only [go_sem, ↓reduceIte, Nat.reduceEqDiff, Nat.reduceAdd, Nat.reduceMul, Nat.reduceSub, Int.reduceToNat, s4], by simp (disch := first | (simp only [go_sem, Bool.and_self, eq_self]; done) | omega | (simp only [List.length_cons, List.length_nil]; omega)) only [go_sem, ↓reduceIte, Nat.reduceEqDiff, Nat.reduceAdd, Nat.reduceMul, Nat.reduceSub, Int.reduceToNat, s0], by simp (disch := first | (simp only [go_sem, Bool.and_self, eq_self]; done) | omega | (simp only [List.length_cons, List.length_nil]; omega)) only [go_sem, ↓reduceIte, Nat.reduceEqDiff, Nat.reduceAdd, Nat.reduceMul, Nat.reduceSub, Int.reduceToNat, s3], fun c hc' => ?_⟩
    rcases Nat.lt_or_ge c j with h | h
    · exact hc c h
    · rw [show c = j by omega]; omega
  rintro st h ⟨s0, s3, hall⟩
  simp (disch := first | (simp only [go_sem, Bool.and_self, eq_self]; done) | omega | (simp only [List.length_cons, List.length_nil]; omega)) only [go_sem, ↓reduceIte, Nat.reduceEqDiff, Nat.reduceAdd, Nat.reduceMul, Nat.reduceSub, Int.reduceToNat, s3]
  rw [ForK_normal]
  refine ⟨hlt, by simp (disch := first | (simp only [go_sem, Bool.and_self, eq_self]; done) | omega | (simp only [List.length_cons, List.length_nil]; omega)) only [go_sem, ↓reduceIte, Nat.reduceEqDiff, Nat.reduceAdd, Nat.reduceMul, Nat.reduceSub, Int.reduceToNat, s3], by simp (disch := first | (simp only [go_sem, Bool.and_self, eq_self]; done) | omega | (simp only [List.length_cons, List.length_nil]; omega)) only [go_sem, ↓reduceIte, Nat.reduceEqDiff, Nat.reduceAdd, Nat.reduceMul, Nat.reduceSub, Int.reduceToNat, s0], fun _ => by omega, fun j hj => ?_⟩
  rcases Nat.lt_or_ge j i with h | h
  · exact hn j h
  · rw [show j = i by omega]
    simp only [rowOk, hall, decide_eq_true h5, Bool.and_self]
theorem k21 (a : List (List Int)) (ha : okLL a) : ConW Try.prog cfg 21 h (some ([LLI a], h')) K = K (.bool (isPlanB a)) h := ConW_num (f21_con a ha) rfl
/-- Cuts of any number of depths. -/
def refCutsB (a : List (List Int)) (k d : Int) : Bool := decide ((a.length : Int) = k) && decide (1 ≤ (nth a 0).length ∧ (nth a 0).length ≤ 4) && a.all (rowOk a 1 d)
theorem f23_con (a : List (List Int)) (ha : okLL a) (k d : Int) (hk : 1 ≤ k) : Con Try.prog cfg 23 [I k, LLI a, I d] (.bool (refCutsB a k d)) := by
  have hlen := ha.1
  refine Con_intro Try.func23 rfl ok23 (Nat.le_of_ble_eq_true rfl) rfl ?_
  simp only [Try.f23, Option.getD_some, initSt3]
  by_cases h1 : (a.length : Int) = k
  case neg =>
    have q2 : refCutsB a k d = false := by simp only [refCutsB]; rw [decide_eq_false h1]; rfl
    simp (disch := first | (simp only [go_sem, Bool.and_self, eq_self]; done) | omega | (simp only [List.length_cons, List.length_nil]; omega)) only [go_sem, ↓reduceIte, Nat.reduceEqDiff, Nat.reduceAdd, Nat.reduceMul, Nat.reduceSub, Int.reduceToNat, h1, q2]
  subst h1
  simp (disch := first | (simp only [go_sem, Bool.and_self, eq_self]; done) | omega | (simp only [List.length_cons, List.length_nil]; omega)) only [go_sem, ↓reduceIte, Nat.reduceEqDiff, Nat.reduceAdd, Nat.reduceMul, Nat.reduceSub, Int.reduceToNat]
  refine WP_for 7 a.length (fun i st h => st 0 = I a.length ∧ st 1 = LLI a ∧ st 2 = I d ∧ (0 < i → 1 ≤ (nth a 0).length ∧ (nth a 0).length ≤ 4) ∧ ∀ j, j < i → rowOk a 1 d (nth a j) = true) (by simp (disch := first | (simp only [go_sem, Bool.and_self, eq_self]; done) | omega | (simp only [List.length_cons, List.length_nil]; omega)) only [go_sem, ↓reduceIte, Nat.reduceEqDiff, Nat.reduceAdd, Nat.reduceMul, Nat.reduceSub, Int.reduceToNat]) ⟨by simp (disch := first | (simp only [go_sem, Bool.and_self, eq_self]; done) | omega | (simp only [List.length_cons, List.length_nil]; omega)) only [go_sem, ↓reduceIte, Nat.reduceEqDiff, Nat.reduceAdd, Nat.reduceMul, Nat.reduceSub, Int.reduceToNat], by simp (disch := first | (simp only [go_sem, Bool.and_self, eq_self]; done) | omega | (simp only [List.length_cons, List.length_nil]; omega)) only [go_sem, ↓reduceIte, Nat.reduceEqDiff, Nat.reduceAdd, Nat.reduceMul, Nat.reduceSub, Int.reduceToNat], by simp (disch := first | (simp only [go_sem, Bool.and_self, eq_self]; done) | omega | (simp only [List.length_cons, List.length_nil]; omega)) only [go_sem, ↓reduceIte, Nat.reduceEqDiff, Nat.reduceAdd, Nat.reduceMul, Nat.reduceSub, Int.reduceToNat], by omega, by omega⟩ ?_
  rintro i st h hi s7 ⟨s0, s1, s2, hz, hn⟩
  by_cases hlt : i < a.length
  case neg =>
    have : refCutsB a a.length d = true := by
      simp only [refCutsB, Bool.and_eq_true, decide_eq_true_eq]
      exact ⟨⟨trivial, hz (by omega)⟩, all_of_nth fun j hj => hn j (by omega)⟩
    simp (disch := first | (simp only [go_sem, Bool.and_self, eq_self]; done) | omega | (simp only [List.length_cons, List.length_nil]; omega)) only [go_sem, ↓reduceIte, Nat.reduceEqDiff, Nat.reduceAdd, Nat.reduceMul, Nat.reduceSub, Int.reduceToNat, s7, s0, s1, s2, hlt, this]
  have bad : rowOk a 1 d (nth a i) = false → refCutsB a a.length d = false := by
    intro hb
    have h8 := not_all_of (p := rowOk a 1 d) hlt hb
    show (_ && a.all (rowOk a 1 d)) = false
    rw [h8, Bool.and_false]
  have bad2 : ¬ (1 ≤ (nth a 0).length ∧ (nth a 0).length ≤ 4) → refCutsB a a.length d = false := by
    intro hb
    simp only [refCutsB, decide_eq_false hb, Bool.and_false, Bool.false_and]
  by_cases h3 : ((nth a i).length : Int) < 1
  · have q : refCutsB a a.length d = false := by
      by_cases e : (nth a i).length = (nth a 0).length
      · exact bad2 (by omega)
      · exact bad (by simp only [rowOk, decide_eq_false e, Bool.false_and])
    simp (disch := first | (simp only [go_sem, Bool.and_self, eq_self]; done) | omega | (simp only [List.length_cons, List.length_nil]; omega)) only [go_sem, ↓reduceIte, Nat.reduceEqDiff, Nat.reduceAdd, Nat.reduceMul, Nat.reduceSub, Int.reduceToNat, s7, s0, s1, s2, hlt, h3, q]
  by_cases h4 : (4 : Int) < (nth a i).length
  · have q : refCutsB a a.length d = false := by
      by_cases e : (nth a i).length = (nth a 0).length
      · exact bad2 (by omega)
      · exact bad (by simp only [rowOk, decide_eq_false e, Bool.false_and])
    simp (disch := first | (simp only [go_sem, Bool.and_self, eq_self]; done) | omega | (simp only [List.length_cons, List.length_nil]; omega)) only [go_sem, ↓reduceIte, Nat.reduceEqDiff, Nat.reduceAdd, Nat.reduceMul, Nat.reduceSub, Int.reduceToNat, s7, s0, s1, s2, hlt, h3, h4, q]
  by_cases h5 : (nth a i).length = (nth a 0).length
  case neg =>
    have q : refCutsB a a.length d = false := bad (by simp only [rowOk, decide_eq_false h5, Bool.false_and])
    simp (disch := first | (simp only [go_sem, Bool.and_self, eq_self]; done) | omega | (simp only [List.length_cons, List.length_nil]; omega)) only [go_sem, ↓reduceIte, Nat.reduceEqDiff, Nat.reduceAdd, Nat.reduceMul, Nat.reduceSub, Int.reduceToNat, s7, s0, s1, s2, hlt, h3, h4, h5, q]
  rw [h5] at h3 h4
  simp (disch := first | (simp only [go_sem, Bool.and_self, eq_self]; done) | omega | (simp only [List.length_cons, List.length_nil]; omega)) only [go_sem, ↓reduceIte, Nat.reduceEqDiff, Nat.reduceAdd, Nat.reduceMul, Nat.reduceSub, Int.reduceToNat, s7, s0, s1, s2, hlt, h3, h4, h5]
  refine WP_cut (fun st h => st 0 = I a.length ∧ st 1 = LLI a ∧ st 2 = I d ∧ st 7 = I i ∧ ((nth a i).all fun x => decide (1 ≤ x ∧ x ≤ d)) = true) ?_ ?_
  · refine WP_for 8 (nth a i).length (fun j st h => st 0 = I a.length ∧ st 1 = LLI a ∧ st 2 = I d ∧ st 7 = I i ∧ ∀ c, c < j → 1 ≤ at2 a i c ∧ at2 a i c ≤ d) (by simp (disch := first | (simp only [go_sem, Bool.and_self, eq_self]; done) | omega | (simp only [List.length_cons, List.length_nil]; omega)) only [go_sem, ↓reduceIte, Nat.reduceEqDiff, Nat.reduceAdd, Nat.reduceMul, Nat.reduceSub, Int.reduceToNat]) ⟨by simp (disch := first | (simp only [go_sem, Bool.and_self, eq_self]; done) | omega | (simp only [List.length_cons, List.length_nil]; omega)) only [go_sem, ↓reduceIte, Nat.reduceEqDiff, Nat.reduceAdd, Nat.reduceMul, Nat.reduceSub, Int.reduceToNat, s0], by simp (disch := first | (simp only [go_sem, Bool.and_self, eq_self]; done) | omega | (simp only [List.length_cons, List.length_nil]; omega)) only [go_sem, ↓reduceIte, Nat.reduceEqDiff, Nat.reduceAdd, Nat.reduceMul, Nat.reduceSub, Int.reduceToNat, s1], by simp (disch := first | (simp only [go_sem, Bool.and_self, eq_self]; done) | omega | (simp only [List.length_cons, List.length_nil]; omega)) only [go_sem, ↓reduceIte, Nat.reduceEqDiff, Nat.reduceAdd, Nat.reduceMul, Nat.reduceSub, Int.reduceToNat, s2], by simp (disch := first | (simp only [go_sem, Bool.and_self, eq_self]; done) | omega | (simp only [List.length_cons, List.length_nil]; omega)) only [go_sem, ↓reduceIte, Nat.reduceEqDiff, Nat.reduceAdd, Nat.reduceMul, Nat.reduceSub, Int.reduceToNat, s7], by omega⟩ ?_
    rintro j st h hj s8 ⟨s0, s1, s2, s7, hc⟩
    by_cases hjt : j < (nth a i).length
    case neg =>
      simp (disch := first | (simp only [go_sem, Bool.and_self, eq_self]; done) | omega | (simp only [List.length_cons, List.length_nil]; omega)) only [go_sem, ↓reduceIte, Nat.reduceEqDiff, Nat.reduceAdd, Nat.reduceMul, Nat.reduceSub, Int.reduceToNat, s8, s7, s0, s1, s2, hlt, hjt]
      exact all_of_nth fun c hc' => by simp only [decide_eq_true_eq]; exact hc c (by omega)
    have badx : ¬ (1 ≤ at2 a i j ∧ at2 a i j ≤ d) → refCutsB a a.length d = false := by
      intro hb
      refine bad ?_
      have := not_all_of (p := fun x => decide (1 ≤ x ∧ x ≤ d)) hjt (decide_eq_false hb)
      simp only [rowOk, this, Bool.and_false]
    by_cases h6 : at2 a i j < 1
    · have q := badx (by omega)
      simp (disch := first | (simp only [go_sem, Bool.and_self, eq_self]; done) | omega | (simp only [List.length_cons, List.length_nil]; omega)) only [go_sem, ↓reduceIte, Nat.reduceEqDiff, Nat.reduceAdd, Nat.reduceMul, Nat.reduceSub, Int.reduceToNat, s8, s7, s0, s1, s2, hlt, hjt, h6, q]
    by_cases h7 : d < at2 a i j
    · have q := badx (by omega)
      simp (disch := first | (simp only [go_sem, Bool.and_self, eq_self]; done) | omega | (simp only [List.length_cons, List.length_nil]; omega)) only [go_sem, ↓reduceIte, Nat.reduceEqDiff, Nat.reduceAdd, Nat.reduceMul, Nat.reduceSub, Int.reduceToNat, s8, s7, s0, s1, s2, hlt, hjt, h6, h7, q]
    simp (disch := first | (simp only [go_sem, Bool.and_self, eq_self]; done) | omega | (simp only [List.length_cons, List.length_nil]; omega)) only [go_sem, ↓reduceIte, Nat.reduceEqDiff, Nat.reduceAdd, Nat.reduceMul, Nat.reduceSub, Int.reduceToNat, s8, s7, s0, s1, s2, hlt, hjt, h6, h7]
    rw [ForK_normal]
    refine ⟨hjt, by simp (disch := first | (simp only [go_sem, Bool.and_self, eq_self]; done) | omega | (simp only [List.length_cons, List.length_nil]; omega)) only [go_sem, ↓reduceIte, Nat.reduceEqDiff, Nat.reduceAdd, Nat.reduceMul, Nat.reduceSub, Int.reduceToNat, s8], by simp (disch := first | (simp only [go_sem, Bool.and_self, eq_self]; done) | omega | (simp only [List.length_cons, List.length_nil]; omega)) only [go_sem, ↓reduceIte, Nat.reduceEqDiff, Nat.reduceAdd, Nat.reduceMul, Nat.reduceSub, Int.reduceToNat, s0], by simp (disch := first | (simp only [go_sem, Bool.and_self, eq_self]; done) | omega | (simp only [List.length_cons, List.length_nil]; omega)) only [go_sem, ↓reduceIte, Nat.reduceEqDiff, Nat.reduceAdd, Nat.reduceMul, Nat.reduceSub, Int.reduceToNat, s1], by simp (disch := first | (simp only [go_sem, Bool.and_self, eq_self]; done) | omega | (simp only [List.length_cons, List.length_nil]; omega)) only [go_sem, ↓reduceIte, Nat.reduceEqDiff, Nat.reduceAdd, Nat.reduceMul, Nat.reduceSub, Int.reduceToNat, s2], by simp (disch := first | (simp only [go_sem, Bool.and_self, eq_self]; done) | omega | (simp only [List.length_cons, List.length_nil]; omega)) only [go_sem, ↓reduceIte, Nat.reduceEqDiff, Nat.reduceAdd, Nat.reduceMul, Nat.reduceSub, Int.reduceToNat, s7], fun c hc' => ?_⟩
    rcases Nat.lt_or_ge c j with h | h
    · exact hc c h
    · rw [show c = j by omega]; omega
  rintro st h ⟨s0, s1, s2, s7, hall⟩
  simp (disch := first | (simp only [go_sem, Bool.and_self, eq_self]; done) | omega | (simp only [List.length_cons, List.length_nil]; omega)) only [go_sem, ↓reduceIte, Nat.reduceEqDiff, Nat.reduceAdd, Nat.reduceMul, Nat.reduceSub, Int.reduceToNat, s7]
  rw [ForK_normal]
  refine ⟨hlt, by simp (disch := first | (simp only [go_sem, Bool.and_self, eq_self]; done) | omega | (simp only [List.length_cons, List.length_nil]; omega)) only [go_sem, ↓reduceIte, Nat.reduceEqDiff, Nat.reduceAdd, Nat.reduceMul, Nat.reduceSub, Int.reduceToNat, s7], by simp (disch := first | (simp only [go_sem, Bool.and_self, eq_self]; done) | omega | (simp only [List.length_cons, List.length_nil]; omega)) only [go_sem, ↓reduceIte, Nat.reduceEqDiff, Nat.reduceAdd, Nat.reduceMul, Nat.reduceSub, Int.reduceToNat, s0], by simp (disch := first | (simp only [go_sem, Bool.and_self, eq_self]; done) | omega | (simp only [List.length_cons, List.length_nil]; omega)) only [go_sem, ↓reduceIte, Nat.reduceEqDiff, Nat.reduceAdd, Nat.reduceMul, Nat.reduceSub, Int.reduceToNat, s1], by simp (disch := first | (simp only [go_sem, Bool.and_self, eq_self]; done) | omega | (simp only [List.length_cons, List.length_nil]; omega)) only [go_sem, ↓reduceIte, Nat.reduceEqDiff, Nat.reduceAdd, Nat.reduceMul, Nat.reduceSub, Int.reduceToNat, s2], fun _ => by omega, fun j hj => ?_⟩
  rcases Nat.lt_or_ge j i with h | h
  · exact hn j h
  · rw [show j = i by omega]
    simp only [rowOk, hall, decide_eq_true h5, Bool.and_self]
theorem k23 (a : List (List Int)) (ha : okLL a) (k d : Int) (hk : 1 ≤ k) : ConW Try.prog cfg 23 h (some ([I k, LLI a, I d], h')) K = K (.bool (refCutsB a k d)) h := ConW_num (f23_con a ha k d hk) rfl
end Go.Proofs.Ytkjdnnedncomgaa
