/-
  The reference's Least, walked.
-/
import Derived.Test.YtkjdnnedncomgaaL5Z
import Derived.Test.YtkjdnnedncomgaaAmMore
set_option linter.unusedVariables false
set_option linter.unusedSimpArgs false
set_option maxRecDepth 10000
namespace Go.Proofs.Ytkjdnnedncomgaa
open Go Go.Am

variable {h h' : Hp} {K : AV → Hp → Prop}

theorem bits_lt2 {X e : Nat} {p : Nat → Nat → Bool} (hX : bits X p) (h : ∀ k j, j < 6 → p k j = true → k * 6 + j < e) : X < 2 ^ e := by
  refine Nat.lt_pow_two_of_testBit (n := e) _ fun i hi => ?_
  have := hX (i / 6) (i % 6) (Nat.mod_lt _ (by decide))
  rw [show i / 6 * 6 + i % 6 = i by omega] at this
  rw [this]
  cases hp : p (i / 6) (i % 6) with
  | false => rfl
  | true => have := h _ _ (Nat.mod_lt _ (by decide)) hp; omega
theorem add_bit {X e : Nat} (h : X < 2 ^ e) : X + 2 ^ e = X ||| 2 ^ e := by
  have := Nat.two_pow_add_eq_or_of_lt h 1
  rw [Nat.mul_one] at this
  rw [Nat.add_comm, this, Nat.or_comm]
theorem add_bitI {X e : Nat} (h : X < 2 ^ e) : (X : Int) + ((2 ^ e : Nat) : Int) = ((X ||| 2 ^ e : Nat) : Int) := by
  rw [← add_bit h]; omega

theorem f39_con {a : List (List Int)} (f : Pl a) : Con Try.prog cfg 39 [LLI a] (I (goalM a)) := by
  have hk := f.keys
  have hlo := f.locks
  refine Con_intro Try.func39 rfl ok39 (Nat.le_of_ble_eq_true rfl) rfl ?_
  simp only [Try.f39, Option.getD_some, initSt1]
  simp (disch := first | (simp only [go_sem, Bool.and_self, eq_self]; done) | omega | (simp only [List.length_cons, List.length_nil]; omega)) only [go_sem, ↓reduceIte, Nat.reduceEqDiff, Nat.reduceAdd, Nat.reduceMul, Nat.reduceSub, Int.reduceToNat]
  refine WP_for 4 a.length (fun i st h => st 0 = LLI a ∧ ∃ X : Nat, st 3 = I X ∧ bits X fun k j => goalP a k j && decide (k < i)) (by simp (disch := first | (simp only [go_sem, Bool.and_self, eq_self]; done) | omega | (simp only [List.length_cons, List.length_nil]; omega)) only [go_sem, ↓reduceIte, Nat.reduceEqDiff, Nat.reduceAdd, Nat.reduceMul, Nat.reduceSub, Int.reduceToNat]) ⟨by simp (disch := first | (simp only [go_sem, Bool.and_self, eq_self]; done) | omega | (simp only [List.length_cons, List.length_nil]; omega)) only [go_sem, ↓reduceIte, Nat.reduceEqDiff, Nat.reduceAdd, Nat.reduceMul, Nat.reduceSub, Int.reduceToNat], 0, by simp (disch := first | (simp only [go_sem, Bool.and_self, eq_self]; done) | omega | (simp only [List.length_cons, List.length_nil]; omega)) only [go_sem, ↓reduceIte, Nat.reduceEqDiff, Nat.reduceAdd, Nat.reduceMul, Nat.reduceSub, Int.reduceToNat]; rfl, fun k j hj => by simp⟩ ?_
  rintro i st h hi s4 ⟨s0, X, s3, hX⟩
  by_cases hia : i < a.length
  case neg =>
    have : X = goalM a := bits_ext hX (bits_congr (goal_bits f) fun k j hj => by
      cases hb : goalP a k j with
      | false => rfl
      | true => simp only [goalP, Bool.and_eq_true, decide_eq_true_eq] at hb; rw [decide_eq_true (by omega)]; rfl)
    simp (disch := first | (simp only [go_sem, Bool.and_self, eq_self]; done) | omega | (simp only [List.length_cons, List.length_nil]; omega)) only [go_sem, ↓reduceIte, Nat.reduceEqDiff, Nat.reduceAdd, Nat.reduceMul, Nat.reduceSub, Int.reduceToNat, s0, s4, s3, hia]
    rw [this]
  have hrow := f.row i hia
  simp (disch := first | (simp only [go_sem, Bool.and_self, eq_self]; done) | omega | (simp only [List.length_cons, List.length_nil]; omega)) only [go_sem, ↓reduceIte, Nat.reduceEqDiff, Nat.reduceAdd, Nat.reduceMul, Nat.reduceSub, Int.reduceToNat, s0, s4, s3, hia]
  refine WP_for 5 (nth a i).length (fun j st h => st 0 = LLI a ∧ st 4 = I i ∧ ∃ X : Nat, st 3 = I X ∧ bits X fun k j' => goalP a k j' && (decide (k < i) || (decide (k = i) && decide (j' < j)))) (by simp (disch := first | (simp only [go_sem, Bool.and_self, eq_self]; done) | omega | (simp only [List.length_cons, List.length_nil]; omega)) only [go_sem, ↓reduceIte, Nat.reduceEqDiff, Nat.reduceAdd, Nat.reduceMul, Nat.reduceSub, Int.reduceToNat]) ⟨by simp (disch := first | (simp only [go_sem, Bool.and_self, eq_self]; done) | omega | (simp only [List.length_cons, List.length_nil]; omega)) only [go_sem, ↓reduceIte, Nat.reduceEqDiff, Nat.reduceAdd, Nat.reduceMul, Nat.reduceSub, Int.reduceToNat, s0], by simp (disch := first | (simp only [go_sem, Bool.and_self, eq_self]; done) | omega | (simp only [List.length_cons, List.length_nil]; omega)) only [go_sem, ↓reduceIte, Nat.reduceEqDiff, Nat.reduceAdd, Nat.reduceMul, Nat.reduceSub, Int.reduceToNat, s4], X, by simp (disch := first | (simp only [go_sem, Bool.and_self, eq_self]; done) | omega | (simp only [List.length_cons, List.length_nil]; omega)) only [go_sem, ↓reduceIte, Nat.reduceEqDiff, Nat.reduceAdd, Nat.reduceMul, Nat.reduceSub, Int.reduceToNat, s3], bits_congr hX fun k j hj => by simp⟩ ?_
  rintro j st h hj s5 ⟨s0, s4, X, s3, hX⟩
  by_cases hjl : j < (nth a i).length
  case neg =>
    simp (disch := first | (simp only [go_sem, Bool.and_self, eq_self]; done) | omega | (simp only [List.length_cons, List.length_nil]; omega)) only [go_sem, ↓reduceIte, Nat.reduceEqDiff, Nat.reduceAdd, Nat.reduceMul, Nat.reduceSub, Int.reduceToNat, s0, s4, s5, s3, hia, hjl]
    rw [ForK_normal]
    refine ⟨hia, by simp (disch := first | (simp only [go_sem, Bool.and_self, eq_self]; done) | omega | (simp only [List.length_cons, List.length_nil]; omega)) only [go_sem, ↓reduceIte, Nat.reduceEqDiff, Nat.reduceAdd, Nat.reduceMul, Nat.reduceSub, Int.reduceToNat, s4], by simp (disch := first | (simp only [go_sem, Bool.and_self, eq_self]; done) | omega | (simp only [List.length_cons, List.length_nil]; omega)) only [go_sem, ↓reduceIte, Nat.reduceEqDiff, Nat.reduceAdd, Nat.reduceMul, Nat.reduceSub, Int.reduceToNat, s0], X, by simp (disch := first | (simp only [go_sem, Bool.and_self, eq_self]; done) | omega | (simp only [List.length_cons, List.length_nil]; omega)) only [go_sem, ↓reduceIte, Nat.reduceEqDiff, Nat.reduceAdd, Nat.reduceMul, Nat.reduceSub, Int.reduceToNat, s3], bits_congr hX fun k j' hj' => ?_⟩
    cases hb : goalP a k j' with
    | false => rfl
    | true =>
      simp only [goalP, Bool.and_eq_true, decide_eq_true_eq] at hb
      rw [Bool.true_and, Bool.true_and, ← Bool.decide_and, ← Bool.decide_or, decide_eq_decide]
      omega
  by_cases h0 : at2 a i j = 0
  case neg =>
    simp (disch := first | (simp only [go_sem, Bool.and_self, eq_self]; done) | omega | (simp only [List.length_cons, List.length_nil]; omega)) only [go_sem, ↓reduceIte, Nat.reduceEqDiff, Nat.reduceAdd, Nat.reduceMul, Nat.reduceSub, Int.reduceToNat, s0, s4, s5, s3, hia, hjl, h0]
    rw [ForK_normal]
    refine ⟨hjl, by simp (disch := first | (simp only [go_sem, Bool.and_self, eq_self]; done) | omega | (simp only [List.length_cons, List.length_nil]; omega)) only [go_sem, ↓reduceIte, Nat.reduceEqDiff, Nat.reduceAdd, Nat.reduceMul, Nat.reduceSub, Int.reduceToNat, s5], by simp (disch := first | (simp only [go_sem, Bool.and_self, eq_self]; done) | omega | (simp only [List.length_cons, List.length_nil]; omega)) only [go_sem, ↓reduceIte, Nat.reduceEqDiff, Nat.reduceAdd, Nat.reduceMul, Nat.reduceSub, Int.reduceToNat, s0], by simp (disch := first | (simp only [go_sem, Bool.and_self, eq_self]; done) | omega | (simp only [List.length_cons, List.length_nil]; omega)) only [go_sem, ↓reduceIte, Nat.reduceEqDiff, Nat.reduceAdd, Nat.reduceMul, Nat.reduceSub, Int.reduceToNat, s4], X, by simp (disch := first | (simp only [go_sem, Bool.and_self, eq_self]; done) | omega | (simp only [List.length_cons, List.length_nil]; omega)) only [go_sem, ↓reduceIte, Nat.reduceEqDiff, Nat.reduceAdd, Nat.reduceMul, Nat.reduceSub, Int.reduceToNat, s3], bits_congr hX fun k j' hj' => ?_⟩
    by_cases hkj : j' = j ∧ k = i
    · obtain ⟨rfl, rfl⟩ := hkj
      simp [goalP, h0]
    · congr 1
      rw [← Bool.decide_and, ← Bool.decide_and, ← Bool.decide_or, ← Bool.decide_or, decide_eq_decide]
      omega
  have hXe := bits_lt2 (e := i * 6 + j) hX fun k j' hj' hb => by
    simp only [Bool.and_eq_true, Bool.or_eq_true, decide_eq_true_eq] at hb; omega
  have h36 := pow36 (k := i) (j := j) (by omega) (by omega)
  have e : ((i : Int) * 6 + (j : Int)) = ((i * 6 + j : Nat) : Int) := by omega
  have hs := shl_one (P := Try.prog) 3 (i * 6 + j) (by omega)
  have hadd := add_bitI hXe
  have hor36 : X ||| 2 ^ (i * 6 + j) < 2 ^ 36 := Nat.or_lt_two_pow (by omega) h36
  simp (disch := first | (simp only [go_sem, Bool.and_self, eq_self]; done) | omega | (simp only [List.length_cons, List.length_nil]; omega)) only [go_sem, ↓reduceIte, Nat.reduceEqDiff, Nat.reduceAdd, Nat.reduceMul, Nat.reduceSub, Int.reduceToNat, s0, s4, s5, s3, hia, hjl, h0, e, hs, hadd]
  rw [ForK_normal]
  refine ⟨hjl, by simp (disch := first | (simp only [go_sem, Bool.and_self, eq_self]; done) | omega | (simp only [List.length_cons, List.length_nil]; omega)) only [go_sem, ↓reduceIte, Nat.reduceEqDiff, Nat.reduceAdd, Nat.reduceMul, Nat.reduceSub, Int.reduceToNat, s5], by simp (disch := first | (simp only [go_sem, Bool.and_self, eq_self]; done) | omega | (simp only [List.length_cons, List.length_nil]; omega)) only [go_sem, ↓reduceIte, Nat.reduceEqDiff, Nat.reduceAdd, Nat.reduceMul, Nat.reduceSub, Int.reduceToNat, s0], by simp (disch := first | (simp only [go_sem, Bool.and_self, eq_self]; done) | omega | (simp only [List.length_cons, List.length_nil]; omega)) only [go_sem, ↓reduceIte, Nat.reduceEqDiff, Nat.reduceAdd, Nat.reduceMul, Nat.reduceSub, Int.reduceToNat, s4], X ||| 2 ^ (i * 6 + j), by simp (disch := first | (simp only [go_sem, Bool.and_self, eq_self]; done) | omega | (simp only [List.length_cons, List.length_nil]; omega)) only [go_sem, ↓reduceIte, Nat.reduceEqDiff, Nat.reduceAdd, Nat.reduceMul, Nat.reduceSub, Int.reduceToNat], bits_congr (bits_or hX (k0 := i) (j0 := j) (by omega)) fun k j' hj' => ?_⟩
  by_cases hkj : j' = j ∧ k = i
  · obtain ⟨rfl, rfl⟩ := hkj
    have : j' < (nth a 0).length := by omega
    simp [goalP, h0, hia, this]
  · have e1 : (decide (k = i) && decide (j' = j)) = false := by rw [← Bool.decide_and]; exact decide_eq_false (by omega)
    rw [e1, Bool.or_false]
    congr 1
    rw [← Bool.decide_and, ← Bool.decide_and, ← Bool.decide_or, ← Bool.decide_or, decide_eq_decide]
    omega
theorem k39 {a : List (List Int)} (f : Pl a) : ConW Try.prog cfg 39 h (some ([LLI a], h')) K = K (I (goalM a)) h := ConW_num (f39_con f) rfl

theorem f54_con {a : List (List Int)} (f : Pl a) {x : List Int} {d : Int} (hd : 1 ≤ d ∧ d ≤ 4) (hxl : x.length = a.length) (hx : Dep x a.length d) : Con Try.prog cfg 54 [LLI a, LI x] (I (blk a x)) := by
  have hk := f.keys
  have hlo := f.locks
  have ft := f.fit hd hx
  refine Con_intro Try.func54 rfl ok54 (Nat.le_of_ble_eq_true rfl) rfl ?_
  simp only [Try.f54, Option.getD_some, initSt2]
  simp (disch := first | (simp only [go_sem, Bool.and_self, eq_self]; done) | omega | (simp only [List.length_cons, List.length_nil]; omega)) only [go_sem, ↓reduceIte, Nat.reduceEqDiff, Nat.reduceAdd, Nat.reduceMul, Nat.reduceSub, Int.reduceToNat]
  refine WP_cut (fun st h => st 0 = LLI a ∧ st 1 = LI x ∧ ∃ v, st 5 = v ∧ Own (e1 LI) 1 h v (col a x)) ?_ ?_
  · refine WP_for 6 a.length (fun i st h => st 0 = LLI a ∧ st 1 = LI x ∧ ∃ v, st 5 = v ∧ Own (e1 LI) 1 h v ((List.range i).map fun i => [nth x i])) (by simp (disch := first | (simp only [go_sem, Bool.and_self, eq_self]; done) | omega | (simp only [List.length_cons, List.length_nil]; omega)) only [go_sem, ↓reduceIte, Nat.reduceEqDiff, Nat.reduceAdd, Nat.reduceMul, Nat.reduceSub, Int.reduceToNat]) ⟨by simp (disch := first | (simp only [go_sem, Bool.and_self, eq_self]; done) | omega | (simp only [List.length_cons, List.length_nil]; omega)) only [go_sem, ↓reduceIte, Nat.reduceEqDiff, Nat.reduceAdd, Nat.reduceMul, Nat.reduceSub, Int.reduceToNat], by simp (disch := first | (simp only [go_sem, Bool.and_self, eq_self]; done) | omega | (simp only [List.length_cons, List.length_nil]; omega)) only [go_sem, ↓reduceIte, Nat.reduceEqDiff, Nat.reduceAdd, Nat.reduceMul, Nat.reduceSub, Int.reduceToNat], .nil, by simp (disch := first | (simp only [go_sem, Bool.and_self, eq_self]; done) | omega | (simp only [List.length_cons, List.length_nil]; omega)) only [go_sem, ↓reduceIte, Nat.reduceEqDiff, Nat.reduceAdd, Nat.reduceMul, Nat.reduceSub, Int.reduceToNat], .inl ⟨rfl, rfl⟩⟩ ?_
    rintro i st h hi s6 ⟨s0, s1, v, s5, how⟩
    by_cases hia : i < a.length
    case neg =>
      have hie : i = a.length := by omega
      simp (disch := first | (simp only [go_sem, Bool.and_self, eq_self]; done) | omega | (simp only [List.length_cons, List.length_nil]; omega)) only [go_sem, ↓reduceIte, Nat.reduceEqDiff, Nat.reduceAdd, Nat.reduceMul, Nat.reduceSub, Int.reduceToNat, s0, s1, s5, s6, hia]
      rw [hie] at how
      exact ⟨_, rfl, how⟩
    have hix : i < x.length := by omega
    have hbs := fun h : Hp => bsB_one (P := Try.prog) (h := h) 3 (I (nth x i)) (I (nth x i)) (I 0) h isz3 izero3 rfl rfl rfl rfl rfl rfl rfl
    have hbs2 := fun h : Hp => bsB_one (P := Try.prog) (h := h) 27 (.lst [[I (nth x i)]]) (LI [nth x i]) .nil h isz27 izero27 rfl rfl rfl (sealA_L (f := e1 I) [nth x i]) rfl rfl (pure_L _)
    have happ := app_one (P := Try.prog) how 27 24 .nil [nth x i] isz27 ibytes27 izero27 rfl (by simp; omega) (by simp; omega)
    simp (disch := first | (simp only [go_sem, Bool.and_self, eq_self]; done) | omega | (simp only [List.length_cons, List.length_nil]; omega)) only [go_sem, ↓reduceIte, Nat.reduceEqDiff, Nat.reduceAdd, Nat.reduceMul, Nat.reduceSub, Int.reduceToNat, s0, s1, s5, s6, hia, hix, hbs, hbs2, happ]
    rw [ForK_normal]
    refine ⟨hia, by simp (disch := first | (simp only [go_sem, Bool.and_self, eq_self]; done) | omega | (simp only [List.length_cons, List.length_nil]; omega)) only [go_sem, ↓reduceIte, Nat.reduceEqDiff, Nat.reduceAdd, Nat.reduceMul, Nat.reduceSub, Int.reduceToNat, s6], by simp (disch := first | (simp only [go_sem, Bool.and_self, eq_self]; done) | omega | (simp only [List.length_cons, List.length_nil]; omega)) only [go_sem, ↓reduceIte, Nat.reduceEqDiff, Nat.reduceAdd, Nat.reduceMul, Nat.reduceSub, Int.reduceToNat, s0], by simp (disch := first | (simp only [go_sem, Bool.and_self, eq_self]; done) | omega | (simp only [List.length_cons, List.length_nil]; omega)) only [go_sem, ↓reduceIte, Nat.reduceEqDiff, Nat.reduceAdd, Nat.reduceMul, Nat.reduceSub, Int.reduceToNat, s1], _, by simp (disch := first | (simp only [go_sem, Bool.and_self, eq_self]; done) | omega | (simp only [List.length_cons, List.length_nil]; omega)) only [go_sem, ↓reduceIte, Nat.reduceEqDiff, Nat.reduceAdd, Nat.reduceMul, Nat.reduceSub, Int.reduceToNat]; rfl, ?_⟩
    rw [← rows_snoc fun i => [nth x i]]
    exact Own.app _ _ _
  rintro st h ⟨s0, s1, v, s5, how⟩
  obtain ⟨h2, z1, _⟩ := sealA_Own how
  simp (disch := first | (simp only [go_sem, Bool.and_self, eq_self]; done) | omega | (simp only [List.length_cons, List.length_nil]; omega)) only [go_sem, ↓reduceIte, Nat.reduceEqDiff, Nat.reduceAdd, Nat.reduceMul, Nat.reduceSub, Int.reduceToNat, s0, s1, s5]
  refine WP_for 8 a.length (fun i st g => g = h ∧ st 0 = LLI a ∧ st 1 = LI x ∧ st 5 = v ∧ ∃ X : Nat, st 7 = I X ∧ bits X fun k j => blkP a x k j && decide (k < i)) (by simp (disch := first | (simp only [go_sem, Bool.and_self, eq_self]; done) | omega | (simp only [List.length_cons, List.length_nil]; omega)) only [go_sem, ↓reduceIte, Nat.reduceEqDiff, Nat.reduceAdd, Nat.reduceMul, Nat.reduceSub, Int.reduceToNat]) ⟨rfl, by simp (disch := first | (simp only [go_sem, Bool.and_self, eq_self]; done) | omega | (simp only [List.length_cons, List.length_nil]; omega)) only [go_sem, ↓reduceIte, Nat.reduceEqDiff, Nat.reduceAdd, Nat.reduceMul, Nat.reduceSub, Int.reduceToNat, s0, s1, s5], by simp (disch := first | (simp only [go_sem, Bool.and_self, eq_self]; done) | omega | (simp only [List.length_cons, List.length_nil]; omega)) only [go_sem, ↓reduceIte, Nat.reduceEqDiff, Nat.reduceAdd, Nat.reduceMul, Nat.reduceSub, Int.reduceToNat, s0, s1, s5], by simp (disch := first | (simp only [go_sem, Bool.and_self, eq_self]; done) | omega | (simp only [List.length_cons, List.length_nil]; omega)) only [go_sem, ↓reduceIte, Nat.reduceEqDiff, Nat.reduceAdd, Nat.reduceMul, Nat.reduceSub, Int.reduceToNat, s0, s1, s5], 0, by simp (disch := first | (simp only [go_sem, Bool.and_self, eq_self]; done) | omega | (simp only [List.length_cons, List.length_nil]; omega)) only [go_sem, ↓reduceIte, Nat.reduceEqDiff, Nat.reduceAdd, Nat.reduceMul, Nat.reduceSub, Int.reduceToNat]; rfl, fun k j hj => by simp⟩ ?_
  rintro i st g hi s8 ⟨rfl, s0, s1, s5, X, s7, hX⟩
  by_cases hia : i < a.length
  case neg =>
    have : X = blk a x := bits_ext hX (bits_congr (blk_bits f x) fun k j hj => by
      cases hb : blkP a x k j with
      | false => rfl
      | true => simp only [blkP, Bool.and_eq_true, decide_eq_true_eq] at hb; rw [decide_eq_true (by omega)]; rfl)
    simp (disch := first | (simp only [go_sem, Bool.and_self, eq_self]; done) | omega | (simp only [List.length_cons, List.length_nil]; omega)) only [go_sem, ↓reduceIte, Nat.reduceEqDiff, Nat.reduceAdd, Nat.reduceMul, Nat.reduceSub, Int.reduceToNat, s0, s1, s5, s8, s7, hia]
    rw [this]
  have hrow := f.row i hia
  simp (disch := first | (simp only [go_sem, Bool.and_self, eq_self]; done) | omega | (simp only [List.length_cons, List.length_nil]; omega)) only [go_sem, ↓reduceIte, Nat.reduceEqDiff, Nat.reduceAdd, Nat.reduceMul, Nat.reduceSub, Int.reduceToNat, s0, s1, s5, s8, s7, hia]
  refine WP_for 9 (nth a i).length (fun j st g' => g' = g ∧ st 0 = LLI a ∧ st 1 = LI x ∧ st 5 = v ∧ st 8 = I i ∧ ∃ X : Nat, st 7 = I X ∧ bits X fun k j' => blkP a x k j' && (decide (k < i) || (decide (k = i) && decide (j' < j)))) (by simp (disch := first | (simp only [go_sem, Bool.and_self, eq_self]; done) | omega | (simp only [List.length_cons, List.length_nil]; omega)) only [go_sem, ↓reduceIte, Nat.reduceEqDiff, Nat.reduceAdd, Nat.reduceMul, Nat.reduceSub, Int.reduceToNat]) ⟨rfl, by simp (disch := first | (simp only [go_sem, Bool.and_self, eq_self]; done) | omega | (simp only [List.length_cons, List.length_nil]; omega)) only [go_sem, ↓reduceIte, Nat.reduceEqDiff, Nat.reduceAdd, Nat.reduceMul, Nat.reduceSub, Int.reduceToNat, s0, s1, s5, s8], by simp (disch := first | (simp only [go_sem, Bool.and_self, eq_self]; done) | omega | (simp only [List.length_cons, List.length_nil]; omega)) only [go_sem, ↓reduceIte, Nat.reduceEqDiff, Nat.reduceAdd, Nat.reduceMul, Nat.reduceSub, Int.reduceToNat, s0, s1, s5, s8], by simp (disch := first | (simp only [go_sem, Bool.and_self, eq_self]; done) | omega | (simp only [List.length_cons, List.length_nil]; omega)) only [go_sem, ↓reduceIte, Nat.reduceEqDiff, Nat.reduceAdd, Nat.reduceMul, Nat.reduceSub, Int.reduceToNat, s0, s1, s5, s8], by simp (disch := first | (simp only [go_sem, Bool.and_self, eq_self]; done) | omega | (simp only [List.length_cons, List.length_nil]; omega)) only [go_sem, ↓reduceIte, Nat.reduceEqDiff, Nat.reduceAdd, Nat.reduceMul, Nat.reduceSub, Int.reduceToNat, s0, s1, s5, s8], X, by simp (disch := first | (simp only [go_sem, Bool.and_self, eq_self]; done) | omega | (simp only [List.length_cons, List.length_nil]; omega)) only [go_sem, ↓reduceIte, Nat.reduceEqDiff, Nat.reduceAdd, Nat.reduceMul, Nat.reduceSub, Int.reduceToNat, s7], bits_congr hX fun k j hj => by simp⟩ ?_
  rintro j st g' hj s9 ⟨rfl, s0, s1, s5, s8, X, s7, hX⟩
  by_cases hjl : j < (nth a i).length
  case neg =>
    simp (disch := first | (simp only [go_sem, Bool.and_self, eq_self]; done) | omega | (simp only [List.length_cons, List.length_nil]; omega)) only [go_sem, ↓reduceIte, Nat.reduceEqDiff, Nat.reduceAdd, Nat.reduceMul, Nat.reduceSub, Int.reduceToNat, s0, s1, s5, s8, s9, s7, hia, hjl]
    rw [ForK_normal]
    refine ⟨hia, by simp (disch := first | (simp only [go_sem, Bool.and_self, eq_self]; done) | omega | (simp only [List.length_cons, List.length_nil]; omega)) only [go_sem, ↓reduceIte, Nat.reduceEqDiff, Nat.reduceAdd, Nat.reduceMul, Nat.reduceSub, Int.reduceToNat, s8], rfl, by simp (disch := first | (simp only [go_sem, Bool.and_self, eq_self]; done) | omega | (simp only [List.length_cons, List.length_nil]; omega)) only [go_sem, ↓reduceIte, Nat.reduceEqDiff, Nat.reduceAdd, Nat.reduceMul, Nat.reduceSub, Int.reduceToNat, s0], by simp (disch := first | (simp only [go_sem, Bool.and_self, eq_self]; done) | omega | (simp only [List.length_cons, List.length_nil]; omega)) only [go_sem, ↓reduceIte, Nat.reduceEqDiff, Nat.reduceAdd, Nat.reduceMul, Nat.reduceSub, Int.reduceToNat, s1], by simp (disch := first | (simp only [go_sem, Bool.and_self, eq_self]; done) | omega | (simp only [List.length_cons, List.length_nil]; omega)) only [go_sem, ↓reduceIte, Nat.reduceEqDiff, Nat.reduceAdd, Nat.reduceMul, Nat.reduceSub, Int.reduceToNat, s5], X, by simp (disch := first | (simp only [go_sem, Bool.and_self, eq_self]; done) | omega | (simp only [List.length_cons, List.length_nil]; omega)) only [go_sem, ↓reduceIte, Nat.reduceEqDiff, Nat.reduceAdd, Nat.reduceMul, Nat.reduceSub, Int.reduceToNat, s7], bits_congr hX fun k j' hj' => ?_⟩
    cases hb : blkP a x k j' with
    | false => rfl
    | true =>
      simp only [blkP, Bool.and_eq_true, decide_eq_true_eq] at hb
      rw [Bool.true_and, Bool.true_and, ← Bool.decide_and, ← Bool.decide_or, decide_eq_decide]
      omega
  have hj0 : j < (nth a 0).length := by omega
  have hpin1 : at2 a i j ≠ 0 → pinB a (col a x) j 0 (nth x i) = true := by
    intro hne
    rw [pinB, List.any_eq_true]
    refine ⟨i, List.mem_range.2 hia, ?_⟩
    have := f.bit i j hia hj0
    rw [col_at hia]
    simp only [Bool.and_eq_true, decide_eq_true_eq]
    exact ⟨by omega, trivial⟩
  have hbl : blkP a x i j = !pinB a (col a x) j 0 (nth x i) := by
    simp only [blkP, barB, decide_eq_true hia, decide_eq_true hj0, Bool.true_and]
  have skip : blkP a x i j = false → bits X fun k j' => blkP a x k j' && (decide (k < i) || (decide (k = i) && decide (j' < j + 1))) := by
    intro hbf
    refine bits_congr hX fun k j' hj' => ?_
    by_cases hkj : j' = j ∧ k = i
    · obtain ⟨rfl, rfl⟩ := hkj
      simp [hbf]
    · congr 1
      rw [← Bool.decide_and, ← Bool.decide_and, ← Bool.decide_or, ← Bool.decide_or, decide_eq_decide]
      omega
  by_cases h0 : at2 a i j = 0
  case neg =>
    simp (disch := first | (simp only [go_sem, Bool.and_self, eq_self]; done) | omega | (simp only [List.length_cons, List.length_nil]; omega)) only [go_sem, ↓reduceIte, Nat.reduceEqDiff, Nat.reduceAdd, Nat.reduceMul, Nat.reduceSub, Int.reduceToNat, s0, s1, s5, s8, s9, s7, hia, hjl, h0]
    rw [ForK_normal]
    exact ⟨hjl, by simp (disch := first | (simp only [go_sem, Bool.and_self, eq_self]; done) | omega | (simp only [List.length_cons, List.length_nil]; omega)) only [go_sem, ↓reduceIte, Nat.reduceEqDiff, Nat.reduceAdd, Nat.reduceMul, Nat.reduceSub, Int.reduceToNat, s9], rfl, by simp (disch := first | (simp only [go_sem, Bool.and_self, eq_self]; done) | omega | (simp only [List.length_cons, List.length_nil]; omega)) only [go_sem, ↓reduceIte, Nat.reduceEqDiff, Nat.reduceAdd, Nat.reduceMul, Nat.reduceSub, Int.reduceToNat, s0], by simp (disch := first | (simp only [go_sem, Bool.and_self, eq_self]; done) | omega | (simp only [List.length_cons, List.length_nil]; omega)) only [go_sem, ↓reduceIte, Nat.reduceEqDiff, Nat.reduceAdd, Nat.reduceMul, Nat.reduceSub, Int.reduceToNat, s1], by simp (disch := first | (simp only [go_sem, Bool.and_self, eq_self]; done) | omega | (simp only [List.length_cons, List.length_nil]; omega)) only [go_sem, ↓reduceIte, Nat.reduceEqDiff, Nat.reduceAdd, Nat.reduceMul, Nat.reduceSub, Int.reduceToNat, s5], by simp (disch := first | (simp only [go_sem, Bool.and_self, eq_self]; done) | omega | (simp only [List.length_cons, List.length_nil]; omega)) only [go_sem, ↓reduceIte, Nat.reduceEqDiff, Nat.reduceAdd, Nat.reduceMul, Nat.reduceSub, Int.reduceToNat, s8], X, by simp (disch := first | (simp only [go_sem, Bool.and_self, eq_self]; done) | omega | (simp only [List.length_cons, List.length_nil]; omega)) only [go_sem, ↓reduceIte, Nat.reduceEqDiff, Nat.reduceAdd, Nat.reduceMul, Nat.reduceSub, Int.reduceToNat, s7], skip (by rw [hbl, hpin1 h0]; rfl)⟩
  have hix : i < x.length := by omega
  have kk := fun h h' K => k36 (h := h) (h' := h') (K := K) a (col a x) j 0 (nth x i) f.okA (fun r hr => by rw [f.row r hr]; exact hj0) (col_len a x) (fun r hr => by rw [col_nth hr]; exact Nat.zero_lt_one) (by omega) (by omega)
  simp only [Int.natCast_zero] at kk
  cases hp : pinB a (col a x) j 0 (nth x i) with
  | true =>
    simp (disch := first | (simp only [go_sem, Bool.and_self, eq_self]; done) | omega | (simp only [List.length_cons, List.length_nil]; omega)) only [go_sem, ↓reduceIte, Nat.reduceEqDiff, Nat.reduceAdd, Nat.reduceMul, Nat.reduceSub, Int.reduceToNat, s0, s1, s5, s8, s9, s7, hia, hjl, h0, hix, z1, kk, hp]
    rw [ForK_normal]
    exact ⟨hjl, by simp (disch := first | (simp only [go_sem, Bool.and_self, eq_self]; done) | omega | (simp only [List.length_cons, List.length_nil]; omega)) only [go_sem, ↓reduceIte, Nat.reduceEqDiff, Nat.reduceAdd, Nat.reduceMul, Nat.reduceSub, Int.reduceToNat, s9], rfl, by simp (disch := first | (simp only [go_sem, Bool.and_self, eq_self]; done) | omega | (simp only [List.length_cons, List.length_nil]; omega)) only [go_sem, ↓reduceIte, Nat.reduceEqDiff, Nat.reduceAdd, Nat.reduceMul, Nat.reduceSub, Int.reduceToNat, s0], by simp (disch := first | (simp only [go_sem, Bool.and_self, eq_self]; done) | omega | (simp only [List.length_cons, List.length_nil]; omega)) only [go_sem, ↓reduceIte, Nat.reduceEqDiff, Nat.reduceAdd, Nat.reduceMul, Nat.reduceSub, Int.reduceToNat, s1], by simp (disch := first | (simp only [go_sem, Bool.and_self, eq_self]; done) | omega | (simp only [List.length_cons, List.length_nil]; omega)) only [go_sem, ↓reduceIte, Nat.reduceEqDiff, Nat.reduceAdd, Nat.reduceMul, Nat.reduceSub, Int.reduceToNat, s5], by simp (disch := first | (simp only [go_sem, Bool.and_self, eq_self]; done) | omega | (simp only [List.length_cons, List.length_nil]; omega)) only [go_sem, ↓reduceIte, Nat.reduceEqDiff, Nat.reduceAdd, Nat.reduceMul, Nat.reduceSub, Int.reduceToNat, s8], X, by simp (disch := first | (simp only [go_sem, Bool.and_self, eq_self]; done) | omega | (simp only [List.length_cons, List.length_nil]; omega)) only [go_sem, ↓reduceIte, Nat.reduceEqDiff, Nat.reduceAdd, Nat.reduceMul, Nat.reduceSub, Int.reduceToNat, s7], skip (by rw [hbl, hp]; rfl)⟩
  | false =>
    have hXe := bits_lt2 (e := i * 6 + j) hX fun k j' hj' hb => by
      simp only [Bool.and_eq_true, Bool.or_eq_true, decide_eq_true_eq] at hb; omega
    have h36 := pow36 (k := i) (j := j) (by omega) (by omega)
    have e : ((i : Int) * 6 + (j : Int)) = ((i * 6 + j : Nat) : Int) := by omega
    have hs := shl_one (P := Try.prog) 3 (i * 6 + j) (by omega)
    have hadd := add_bitI hXe
    have hor36 : X ||| 2 ^ (i * 6 + j) < 2 ^ 36 := Nat.or_lt_two_pow (by omega) h36
    simp (disch := first | (simp only [go_sem, Bool.and_self, eq_self]; done) | omega | (simp only [List.length_cons, List.length_nil]; omega)) only [go_sem, ↓reduceIte, Nat.reduceEqDiff, Nat.reduceAdd, Nat.reduceMul, Nat.reduceSub, Int.reduceToNat, s0, s1, s5, s8, s9, s7, hia, hjl, h0, hix, z1, kk, hp, e, hs, hadd]
    rw [ForK_normal]
    refine ⟨hjl, by simp (disch := first | (simp only [go_sem, Bool.and_self, eq_self]; done) | omega | (simp only [List.length_cons, List.length_nil]; omega)) only [go_sem, ↓reduceIte, Nat.reduceEqDiff, Nat.reduceAdd, Nat.reduceMul, Nat.reduceSub, Int.reduceToNat, s9], rfl, by simp (disch := first | (simp only [go_sem, Bool.and_self, eq_self]; done) | omega | (simp only [List.length_cons, List.length_nil]; omega)) only [go_sem, ↓reduceIte, Nat.reduceEqDiff, Nat.reduceAdd, Nat.reduceMul, Nat.reduceSub, Int.reduceToNat, s0], by simp (disch := first | (simp only [go_sem, Bool.and_self, eq_self]; done) | omega | (simp only [List.length_cons, List.length_nil]; omega)) only [go_sem, ↓reduceIte, Nat.reduceEqDiff, Nat.reduceAdd, Nat.reduceMul, Nat.reduceSub, Int.reduceToNat, s1], by simp (disch := first | (simp only [go_sem, Bool.and_self, eq_self]; done) | omega | (simp only [List.length_cons, List.length_nil]; omega)) only [go_sem, ↓reduceIte, Nat.reduceEqDiff, Nat.reduceAdd, Nat.reduceMul, Nat.reduceSub, Int.reduceToNat, s5], by simp (disch := first | (simp only [go_sem, Bool.and_self, eq_self]; done) | omega | (simp only [List.length_cons, List.length_nil]; omega)) only [go_sem, ↓reduceIte, Nat.reduceEqDiff, Nat.reduceAdd, Nat.reduceMul, Nat.reduceSub, Int.reduceToNat, s8], X ||| 2 ^ (i * 6 + j), by simp (disch := first | (simp only [go_sem, Bool.and_self, eq_self]; done) | omega | (simp only [List.length_cons, List.length_nil]; omega)) only [go_sem, ↓reduceIte, Nat.reduceEqDiff, Nat.reduceAdd, Nat.reduceMul, Nat.reduceSub, Int.reduceToNat], bits_congr (bits_or hX (k0 := i) (j0 := j) (by omega)) fun k j' hj' => ?_⟩
    by_cases hkj : j' = j ∧ k = i
    · obtain ⟨rfl, rfl⟩ := hkj
      simp [hbl, hp]
    · have e1 : (decide (k = i) && decide (j' = j)) = false := by rw [← Bool.decide_and]; exact decide_eq_false (by omega)
      rw [e1, Bool.or_false]
      congr 1
      rw [← Bool.decide_and, ← Bool.decide_and, ← Bool.decide_or, ← Bool.decide_or, decide_eq_decide]
      omega
theorem k54 {a : List (List Int)} (f : Pl a) {x : List Int} {d : Int} (hd : 1 ≤ d ∧ d ≤ 4) (hxl : x.length = a.length) (hx : Dep x a.length d) : ConW Try.prog cfg 54 h (some ([LLI a, LI x], h')) K = K (I (blk a x)) h := ConW_num (f54_con f hd hxl hx) rfl

/-- Numbers that are not negative, as ints. -/
abbrev natL (l : List Nat) : List Int := l.map fun n : Nat => (n : Int)
theorem natL_nth {l : List Nat} {i : Nat} (hi : i < l.length) : nth (natL l) i = ((nth l i : Nat) : Int) := by simp [nth, hi]

/-- What each chamber keeps apart. -/
def chsF (a : List (List Int)) (d m : Nat) (path : List Int) (used : Nat) : List Nat := (lv d m path used).map (blk a)
theorem f41_con {a : List (List Int)} (f : Pl a) {d : Nat} (hd : 1 ≤ d ∧ d ≤ 4) : ∀ (m : Nat) (path : List Int) (used : Nat), path.length + m = a.length → Dep path path.length d → used ≤ d →
    Con Try.prog cfg 41 [LLI a, I d, LI path, I used] (LI (natL (chsF a d m path used))) := by
  have hk := f.keys
  intro m
  induction m with
  | zero =>
    intro path used hpl hdp hu
    have hpe : path.length = a.length := by omega
    have kk := fun h h' K => k54 (h := h) (h' := h') (K := K) f (d := (d : Int)) (x := path) (by omega) hpe (by rw [← hpe]; exact hdp)
    have hbs := fun h : Hp => bsB_one (P := Try.prog) (h := h) 3 (I (blk a path)) (I (blk a path)) (I 0) h isz3 izero3 rfl rfl rfl rfl rfl rfl rfl
    have e : LI (natL (chsF a d 0 path used)) = .lst [[I (blk a path)]] := rfl
    refine Con_intro Try.func41 rfl ok41 (Nat.le_of_ble_eq_true rfl) rfl ?_
    simp only [Try.f41, Option.getD_some, initSt4]
    simp (disch := first | (simp only [go_sem, Bool.and_self, eq_self]; done) | omega | (simp only [List.length_cons, List.length_nil]; omega)) only [go_sem, ↓reduceIte, Nat.reduceEqDiff, Nat.reduceAdd, Nat.reduceMul, Nat.reduceSub, Int.reduceToNat, hpe, kk, hbs, e]
    exact export_L (f := e1 I) false 27 [(blk a path : Int)]
  | succ m ih =>
    intro path used hpl hdp hu
    have hpe : ¬ path.length = a.length := by omega
    refine Con_intro Try.func41 rfl ok41 (Nat.le_of_ble_eq_true rfl) rfl ?_
    simp only [Try.f41, Option.getD_some, initSt4]
    simp (disch := first | (simp only [go_sem, Bool.and_self, eq_self]; done) | omega | (simp only [List.length_cons, List.length_nil]; omega)) only [go_sem, ↓reduceIte, Nat.reduceEqDiff, Nat.reduceAdd, Nat.reduceMul, Nat.reduceSub, Int.reduceToNat, hpe]
    refine WP_for1 10 (min (used + 1) d) (fun i st h => st 0 = LLI a ∧ st 1 = I d ∧ st 2 = LI path ∧ st 3 = I used ∧ ∃ v, st 9 = v ∧ Own (e1 I) 1 h v (natL ((List.range i).flatMap fun i => chsF a d m (path ++ [((i + 1 : Nat) : Int)]) (max used (i + 1)))))
      (by simp (disch := first | (simp only [go_sem, Bool.and_self, eq_self]; done) | omega | (simp only [List.length_cons, List.length_nil]; omega)) only [go_sem, ↓reduceIte, Nat.reduceEqDiff, Nat.reduceAdd, Nat.reduceMul, Nat.reduceSub, Int.reduceToNat]) ⟨by simp (disch := first | (simp only [go_sem, Bool.and_self, eq_self]; done) | omega | (simp only [List.length_cons, List.length_nil]; omega)) only [go_sem, ↓reduceIte, Nat.reduceEqDiff, Nat.reduceAdd, Nat.reduceMul, Nat.reduceSub, Int.reduceToNat], by simp (disch := first | (simp only [go_sem, Bool.and_self, eq_self]; done) | omega | (simp only [List.length_cons, List.length_nil]; omega)) only [go_sem, ↓reduceIte, Nat.reduceEqDiff, Nat.reduceAdd, Nat.reduceMul, Nat.reduceSub, Int.reduceToNat], by simp (disch := first | (simp only [go_sem, Bool.and_self, eq_self]; done) | omega | (simp only [List.length_cons, List.length_nil]; omega)) only [go_sem, ↓reduceIte, Nat.reduceEqDiff, Nat.reduceAdd, Nat.reduceMul, Nat.reduceSub, Int.reduceToNat], by simp (disch := first | (simp only [go_sem, Bool.and_self, eq_self]; done) | omega | (simp only [List.length_cons, List.length_nil]; omega)) only [go_sem, ↓reduceIte, Nat.reduceEqDiff, Nat.reduceAdd, Nat.reduceMul, Nat.reduceSub, Int.reduceToNat], .nil, by simp (disch := first | (simp only [go_sem, Bool.and_self, eq_self]; done) | omega | (simp only [List.length_cons, List.length_nil]; omega)) only [go_sem, ↓reduceIte, Nat.reduceEqDiff, Nat.reduceAdd, Nat.reduceMul, Nat.reduceSub, Int.reduceToNat], .inl ⟨rfl, rfl⟩⟩ ?_
    rintro i st h hi s10 ⟨s0, s1, s2, s3, v, s9, how⟩
    by_cases hlt : i < min (used + 1) d
    case neg =>
      have hie : i = min (used + 1) d := by omega
      have hcm : ¬ (i : Int) + 1 ≤ min ((used : Int) + 1) (d : Int) := by omega
      simp (disch := first | (simp only [go_sem, Bool.and_self, eq_self]; done) | omega | (simp only [List.length_cons, List.length_nil]; omega)) only [go_sem, ↓reduceIte, Nat.reduceEqDiff, Nat.reduceAdd, Nat.reduceMul, Nat.reduceSub, Int.reduceToNat, s0, s1, s2, s3, s10, s9, hcm]
      subst hie
      have e : chsF a d (m + 1) path used = (List.range (min (used + 1) d)).flatMap fun i => chsF a d m (path ++ [((i + 1 : Nat) : Int)]) (max used (i + 1)) := by
        simp only [chsF, lv, List.map_flatMap]
      rw [e]
      exact export_Own (f := e1 I) 27 how
    have hcm : (i : Int) + 1 ≤ min ((used : Int) + 1) (d : Int) := by omega
    have e2 : max (used : Int) ((i : Int) + 1) = ((max used (i + 1) : Nat) : Int) := by omega
    have happ0 := app_nil (P := Try.prog) (h := h) (f := e1 I) 3 8 (I 0) (LI path) path isz3 ibytes3 izero3 rfl (cellsOf_L _ _) (lenA_L _ _) (by omega) (by omega)
    have o1 : Own (e1 I) 1 (h.alloc (.cells false true (path.flatMap (e1 I)))) (.sl h.nx 0 path.length 1) path := .inr ⟨h.nx, rfl, by rw [alloc_nx]; omega, by rw [alloc_bl, if_pos rfl]⟩
    have hbs := fun h : Hp => bsB_one (P := Try.prog) (h := h) 3 (I ((i : Int) + 1)) (I ((i : Int) + 1)) (I 0) h isz3 izero3 rfl rfl rfl rfl rfl rfl rfl
    have happ1 := app_one (P := Try.prog) o1 3 8 (I 0) ((i : Int) + 1) isz3 ibytes3 izero3 rfl (by omega) (by omega)
    have o2 := Own.app (f := e1 I) (sz := 1) (h.alloc (.cells false true (path.flatMap (e1 I)))) (.sl h.nx 0 path.length 1) (path ++ [(i : Int) + 1])
    have hov : Own (e1 I) 1 (h.alloc (.cells false true (path.flatMap (e1 I)))) v (natL ((List.range i).flatMap fun i => chsF a d m (path ++ [((i + 1 : Nat) : Int)]) (max used (i + 1)))) :=
      how.mono (by rw [alloc_nx]; omega) fun id hid => by rw [alloc_bl, if_neg (by omega)]
    have hdis : Dis (.sl h.nx 0 path.length 1) v := by
      intro id off n s id' off' n' s' q1 q2
      cases q1
      rcases how with ⟨rfl, _⟩ | ⟨j, q, hj, _⟩
      · cases q2
      · rw [q] at q2; cases q2; omega
    have hov2 := hov.keep hdis ((path ++ [(i : Int) + 1]).flatMap (e1 I))
    have hdis2 := hov.dis (path ++ [(i : Int) + 1]).length 1
    generalize hG : appH (h.alloc (.cells false true (path.flatMap (e1 I)))) (.sl h.nx 0 path.length 1) ((path ++ [(i : Int) + 1]).flatMap (e1 I)) = G at *
    generalize hw : appV (h.alloc (.cells false true (path.flatMap (e1 I)))) (path ++ [(i : Int) + 1]).length 1 = w at *
    obtain ⟨G2, z1, z2, z3⟩ := sealA_Own o2
    have hov3 : Own (e1 I) 1 G2 v (natL ((List.range i).flatMap fun i => chsF a d m (path ++ [((i + 1 : Nat) : Int)]) (max used (i + 1)))) := by
      rcases hov2 with o | ⟨id, q1, q2, q3⟩
      · exact .inl o
      · exact .inr ⟨id, q1, by omega, by rw [z3 id (fun id' off n s e => (hdis2 _ _ _ _ _ _ _ _ e q1).symm)]; exact q3⟩
    have kk : ∀ h h' K, ConW Try.prog cfg 41 h (some ([LLI a, I d, LI (path ++ [(i : Int) + 1]), I ((max used (i + 1) : Nat) : Int)], h')) K = K (LI (natL (chsF a d m (path ++ [((i + 1 : Nat) : Int)]) (max used (i + 1))))) h' := by
      intro h h' K
      have := ih (path ++ [((i + 1 : Nat) : Int)]) (max used (i + 1)) (by simp; omega) (by
        intro j hj
        rw [List.length_append, List.length_singleton] at hj
        rcases Nat.lt_or_ge j path.length with h1 | h1
        · rw [nth_append_left _ _ _ h1]; exact hdp j h1
        · have : j = path.length := by omega
          subst this
          rw [nth_append_last]; omega) (by omega)
      rw [ConW_any (by exact this) rfl]; rfl
    have hlen1 : (natL ((List.range i).flatMap fun i => chsF a d m (path ++ [((i + 1 : Nat) : Int)]) (max used (i + 1)))).length + (natL (chsF a d m (path ++ [((i + 1 : Nat) : Int)]) (max used (i + 1)))).length ≤ 100000 := by
      have h1 : ((List.range (i + 1)).flatMap fun i => chsF a d m (path ++ [((i + 1 : Nat) : Int)]) (max used (i + 1))).length ≤ (i + 1) * 4 ^ m := by
        have : ∀ l : List Nat, (l.flatMap fun i => chsF a d m (path ++ [((i + 1 : Nat) : Int)]) (max used (i + 1))).length ≤ l.length * 4 ^ m := by
          intro l
          induction l with
          | nil => simp
          | cons y l ih2 =>
            rw [List.flatMap_cons, List.length_append, List.length_cons, Nat.succ_mul]
            have h2 := lv_len d m (path ++ [((y + 1 : Nat) : Int)]) (max used (y + 1))
            have h3 : d ^ m ≤ 4 ^ m := Nat.pow_le_pow_left hd.2 _
            have h4 : (chsF a d m (path ++ [((y + 1 : Nat) : Int)]) (max used (y + 1))).length = (lv d m (path ++ [((y + 1 : Nat) : Int)]) (max used (y + 1))).length := by simp [chsF]
            omega
        have := this (List.range (i + 1))
        rwa [List.length_range] at this
      rw [List.range_succ, List.flatMap_append, List.length_append] at h1
      simp only [List.flatMap_cons, List.flatMap_nil, List.append_nil] at h1
      have h5 : 4 ^ m ≤ 4 ^ 6 := Nat.pow_le_pow_right (by decide) (by omega)
      have h6 : (i + 1) * 4 ^ m ≤ 4 * 4 ^ 6 := Nat.mul_le_mul (by omega) h5
      have h7 : 4 * 4 ^ 6 = 16384 := by decide
      rw [List.length_map, List.length_map]
      omega
    have happ2 := app_Own (P := Try.prog) hov3 3 8 (I 0) (LI (natL (chsF a d m (path ++ [((i + 1 : Nat) : Int)]) (max used (i + 1))))) (natL (chsF a d m (path ++ [((i + 1 : Nat) : Int)]) (max used (i + 1)))) isz3 ibytes3 izero3 rfl (cellsOf_L _ _) (lenA_L _ _) (by omega) (by omega)
    simp (disch := first | (simp only [go_sem, Bool.and_self, eq_self]; done) | omega | (simp only [List.length_cons, List.length_nil]; omega)) only [go_sem, ↓reduceIte, Nat.reduceEqDiff, Nat.reduceAdd, Nat.reduceMul, Nat.reduceSub, Int.reduceToNat, s0, s1, s2, s3, s10, s9, hcm, e2, happ0, hbs, happ1, hG, hw, z1, kk, happ2]
    rw [For1K_normal]
    refine ⟨hlt, by simp (disch := first | (simp only [go_sem, Bool.and_self, eq_self]; done) | omega | (simp only [List.length_cons, List.length_nil]; omega)) only [go_sem, ↓reduceIte, Nat.reduceEqDiff, Nat.reduceAdd, Nat.reduceMul, Nat.reduceSub, Int.reduceToNat, s10], by simp (disch := first | (simp only [go_sem, Bool.and_self, eq_self]; done) | omega | (simp only [List.length_cons, List.length_nil]; omega)) only [go_sem, ↓reduceIte, Nat.reduceEqDiff, Nat.reduceAdd, Nat.reduceMul, Nat.reduceSub, Int.reduceToNat, s0], by simp (disch := first | (simp only [go_sem, Bool.and_self, eq_self]; done) | omega | (simp only [List.length_cons, List.length_nil]; omega)) only [go_sem, ↓reduceIte, Nat.reduceEqDiff, Nat.reduceAdd, Nat.reduceMul, Nat.reduceSub, Int.reduceToNat, s1], by simp (disch := first | (simp only [go_sem, Bool.and_self, eq_self]; done) | omega | (simp only [List.length_cons, List.length_nil]; omega)) only [go_sem, ↓reduceIte, Nat.reduceEqDiff, Nat.reduceAdd, Nat.reduceMul, Nat.reduceSub, Int.reduceToNat, s2], by simp (disch := first | (simp only [go_sem, Bool.and_self, eq_self]; done) | omega | (simp only [List.length_cons, List.length_nil]; omega)) only [go_sem, ↓reduceIte, Nat.reduceEqDiff, Nat.reduceAdd, Nat.reduceMul, Nat.reduceSub, Int.reduceToNat, s3], _, by simp (disch := first | (simp only [go_sem, Bool.and_self, eq_self]; done) | omega | (simp only [List.length_cons, List.length_nil]; omega)) only [go_sem, ↓reduceIte, Nat.reduceEqDiff, Nat.reduceAdd, Nat.reduceMul, Nat.reduceSub, Int.reduceToNat]; rfl, ?_⟩
    have e3 : natL ((List.range (i + 1)).flatMap fun i => chsF a d m (path ++ [((i + 1 : Nat) : Int)]) (max used (i + 1))) = natL ((List.range i).flatMap fun i => chsF a d m (path ++ [((i + 1 : Nat) : Int)]) (max used (i + 1))) ++ natL (chsF a d m (path ++ [((i + 1 : Nat) : Int)]) (max used (i + 1))) := by
      rw [List.range_succ, List.flatMap_append, natL, List.map_append]
      simp only [List.flatMap_cons, List.flatMap_nil, List.append_nil]
    rw [e3]
    exact Own.app _ _ _
theorem k41 {a : List (List Int)} (f : Pl a) {d : Nat} (hd : 1 ≤ d ∧ d ≤ 4) : ConW Try.prog cfg 41 h (some ([LLI a, I d, .lst [], I 0], h')) K = K (LI (natL (chsF a d a.length [] 0))) h' := by
  have := f41_con f hd a.length [] 0 (by simp) (fun i hi => by simp at hi) (by omega)
  have e : LI [] = AV.lst [] := rfl
  rw [e] at this
  rw [ConW_any (by exact this) rfl]; rfl
end Go.Proofs.Ytkjdnnedncomgaa
