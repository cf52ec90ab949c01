/-
  Wrong, Check, and the reference's Wrong and Strangers.
-/
import Derived.Test.YtkjdnnedncomgaaL5M
set_option linter.unusedVariables false
set_option linter.unusedSimpArgs false
set_option maxRecDepth 10000
namespace Go.Proofs.Ytkjdnnedncomgaa
open Go Go.Am

variable {h h' : Hp} {K : AV → Hp → Prop}

/-- A plan and cuts for it. -/
def fitB (a cuts : List (List Int)) (d : Int) : Bool := isPlanB a && areCutsB cuts a.length d
theorem fitB_fit {a cuts : List (List Int)} {d : Int} (h : fitB a cuts d = true) : Fit a cuts d := by
  simp only [fitB, Bool.and_eq_true] at h
  exact Fit.of h.1 h.2
def wrongM (a cuts : List (List Int)) (d : Int) : List (Int × Int) := if fitB a cuts d then wrongL a cuts a.length else []

theorem f26_con (a cuts : List (List Int)) (ha : okLL a) (hc : okLL cuts) (d : Int) : Con Try.prog cfg 26 [LLI a, LLI cuts, I d] (.tup [LP (wrongM a cuts d), I (if fitB a cuts d then 0 else 2)]) := by
  have kk1 := fun h h' K => k32 (h := h) (h' := h') (K := K) a ha
  refine Con_intro Try.func26 rfl ok26 (Nat.le_of_ble_eq_true rfl) rfl ?_
  simp only [Try.f26, Option.getD_some, initSt3]
  cases h1 : isPlanB a with
  | false =>
    have : fitB a cuts d = false := by simp [fitB, h1]
    simp (disch := first | (simp only [go_sem, Bool.and_self, eq_self]; done) | omega | (simp only [List.length_cons, List.length_nil]; omega)) only [go_sem, ↓reduceIte, Nat.reduceEqDiff, Nat.reduceAdd, Nat.reduceMul, Nat.reduceSub, Int.reduceToNat, kk1, h1, wrongM, this]
    rfl
  | true =>
  have hpl := h1
  simp only [isPlanB, Bool.and_eq_true, decide_eq_true_eq] at hpl
  obtain ⟨⟨p1, p2⟩, _⟩ := hpl
  have kk2 := fun h h' K => k33 (h := h) (h' := h') (K := K) cuts hc a.length d (by omega)
  cases h2 : areCutsB cuts a.length d with
  | false =>
    have : fitB a cuts d = false := by simp [fitB, h2]
    simp (disch := first | (simp only [go_sem, Bool.and_self, eq_self]; done) | omega | (simp only [List.length_cons, List.length_nil]; omega)) only [go_sem, ↓reduceIte, Nat.reduceEqDiff, Nat.reduceAdd, Nat.reduceMul, Nat.reduceSub, Int.reduceToNat, kk1, kk2, h1, h2, wrongM, this]
    rfl
  | true =>
    have : fitB a cuts d = true := by simp [fitB, h1, h2]
    have kk3 := fun h h' K => k42 (h := h) (h' := h') (K := K) (Fit.of h1 h2)
    simp (disch := first | (simp only [go_sem, Bool.and_self, eq_self]; done) | omega | (simp only [List.length_cons, List.length_nil]; omega)) only [go_sem, ↓reduceIte, Nat.reduceEqDiff, Nat.reduceAdd, Nat.reduceMul, Nat.reduceSub, Int.reduceToNat, kk1, kk2, kk3, h1, h2, wrongM, this]
theorem k26 (a cuts : List (List Int)) (ha : okLL a) (hc : okLL cuts) (d : Int) : ConW Try.prog cfg 26 h (some ([LLI a, LLI cuts, I d], h')) K = K (.tup [LP (wrongM a cuts d), I (if fitB a cuts d then 0 else 2)]) h' := by
  rw [ConW_any (f26_con a cuts ha hc d) rfl, importR_two rfl rfl]

/-- What Check answers. -/
def checkM (a cuts : List (List Int)) (d : Int) : Int := if fitB a cuts d then (if (wrongL a cuts a.length).length = 0 then 0 else 10) else 2
theorem f25_con (a cuts : List (List Int)) (ha : okLL a) (hc : okLL cuts) (d : Int) : Con Try.prog cfg 25 [LLI a, LLI cuts, I d] (I (checkM a cuts d)) := by
  have kk1 := fun h h' K => k26 (h := h) (h' := h') (K := K) a cuts ha hc d
  refine Con_intro Try.func25 rfl ok25 (Nat.le_of_ble_eq_true rfl) rfl ?_
  simp only [Try.f25, Option.getD_some, initSt3]
  cases hf : fitB a cuts d with
  | false => simp (disch := first | (simp only [go_sem, Bool.and_self, eq_self]; done) | omega | (simp only [List.length_cons, List.length_nil]; omega)) only [go_sem, ↓reduceIte, Nat.reduceEqDiff, Nat.reduceAdd, Nat.reduceMul, Nat.reduceSub, Int.reduceToNat, kk1, checkM, wrongM, hf, show ¬ (2 : Int) = 0 by omega]
  | true =>
    by_cases hz : (wrongL a cuts a.length).length = 0
    · have hz' : ¬ (0 : Int) < ((wrongL a cuts a.length).length : Int) := by omega
      simp (disch := first | (simp only [go_sem, Bool.and_self, eq_self]; done) | omega | (simp only [List.length_cons, List.length_nil]; omega)) only [go_sem, ↓reduceIte, Nat.reduceEqDiff, Nat.reduceAdd, Nat.reduceMul, Nat.reduceSub, Int.reduceToNat, kk1, checkM, wrongM, hf, hz']
      rw [if_pos hz]
    · have hz' : (0 : Int) < ((wrongL a cuts a.length).length : Int) := by omega
      simp (disch := first | (simp only [go_sem, Bool.and_self, eq_self]; done) | omega | (simp only [List.length_cons, List.length_nil]; omega)) only [go_sem, ↓reduceIte, Nat.reduceEqDiff, Nat.reduceAdd, Nat.reduceMul, Nat.reduceSub, Int.reduceToNat, kk1, checkM, wrongM, hf, hz, hz']
theorem k25 (a cuts : List (List Int)) (ha : okLL a) (hc : okLL cuts) (d : Int) : ConW Try.prog cfg 25 h (some ([LLI a, LLI cuts, I d], h')) K = K (I (checkM a cuts d)) h := ConW_num (f25_con a cuts ha hc d) rfl

/-! ### The statements' own comparisons, the reference -/
theorem eqArr2 (a b c d : Int) : binA Try.prog .neq 23 (.agg [I a, I b]) (.agg [I c, I d]) = some (.bool (decide (¬ (a, b) = (c, d)))) := by
  have h1 : Try.prog.eqGuardType Try.prog.depth 23 = false := by kernel_rfl
  have e : eqA Try.prog 23 (.agg [I a, I b]) (.agg [I c, I d]) = some ((a == c) && (b == d)) := by
    simp [eqA, eqAgg, h1, und23, und3, isz3, eqArr, eqCell]
  simp only [binA, isEq, Option.bind_some, e, Option.map_some]
  congr 2
  by_cases h2 : a = c <;> by_cases h3 : b = d <;> simp [h2, h3]
theorem f27_con (xs ys : List (Int × Int)) (hx : xs.length ≤ 9223372036854775807) : Con Try.prog cfg 27 [LP xs, LP ys] (.bool (decide (xs = ys))) := by
  refine Con_intro Try.func27 rfl ok27 (Nat.le_of_ble_eq_true rfl) rfl ?_
  simp only [Try.f27, Option.getD_some, initSt2]
  by_cases hl : xs.length = ys.length
  case neg =>
    have hne : ¬ xs = ys := fun h => hl (by rw [h])
    simp (disch := first | (simp only [go_sem, Bool.and_self, eq_self]; done) | omega | (simp only [List.length_cons, List.length_nil]; omega)) only [go_sem, ↓reduceIte, Nat.reduceEqDiff, Nat.reduceAdd, Nat.reduceMul, Nat.reduceSub, Int.reduceToNat, hl, decide_eq_false hne]
  simp (disch := first | (simp only [go_sem, Bool.and_self, eq_self]; done) | omega | (simp only [List.length_cons, List.length_nil]; omega)) only [go_sem, ↓reduceIte, Nat.reduceEqDiff, Nat.reduceAdd, Nat.reduceMul, Nat.reduceSub, Int.reduceToNat, hl]
  refine WP_for 5 xs.length (fun i st h => st 0 = LP xs ∧ st 1 = LP ys ∧ ∀ j, j < i → nth xs j = nth ys j) (by simp (disch := first | (simp only [go_sem, Bool.and_self, eq_self]; done) | omega | (simp only [List.length_cons, List.length_nil]; omega)) only [go_sem, ↓reduceIte, Nat.reduceEqDiff, Nat.reduceAdd, Nat.reduceMul, Nat.reduceSub, Int.reduceToNat]) ⟨by simp (disch := first | (simp only [go_sem, Bool.and_self, eq_self]; done) | omega | (simp only [List.length_cons, List.length_nil]; omega)) only [go_sem, ↓reduceIte, Nat.reduceEqDiff, Nat.reduceAdd, Nat.reduceMul, Nat.reduceSub, Int.reduceToNat], by simp (disch := first | (simp only [go_sem, Bool.and_self, eq_self]; done) | omega | (simp only [List.length_cons, List.length_nil]; omega)) only [go_sem, ↓reduceIte, Nat.reduceEqDiff, Nat.reduceAdd, Nat.reduceMul, Nat.reduceSub, Int.reduceToNat], by omega⟩ ?_
  rintro i st h hi s5 ⟨s0, s1, heq⟩
  by_cases hlt : i < xs.length
  case neg =>
    have : xs = ys := list_ext_nth hl fun j hj => heq j (by omega)
    simp (disch := first | (simp only [go_sem, Bool.and_self, eq_self]; done) | omega | (simp only [List.length_cons, List.length_nil]; omega)) only [go_sem, ↓reduceIte, Nat.reduceEqDiff, Nat.reduceAdd, Nat.reduceMul, Nat.reduceSub, Int.reduceToNat, s0, s1, s5, hlt, decide_eq_true this]
  have hlt2 : i < ys.length := by omega
  have he2 := eqArr2 (nth xs i).1 (nth xs i).2 (nth ys i).1 (nth ys i).2
  by_cases he : nth xs i = nth ys i
  case neg =>
    have : ¬ xs = ys := fun h => he (by rw [h])
    rw [decide_eq_true (p := ¬ ((nth xs i).1, (nth xs i).2) = ((nth ys i).1, (nth ys i).2)) he] at he2
    simp (disch := first | (simp only [go_sem, Bool.and_self, eq_self]; done) | omega | (simp only [List.length_cons, List.length_nil]; omega)) only [go_sem, ↓reduceIte, Nat.reduceEqDiff, Nat.reduceAdd, Nat.reduceMul, Nat.reduceSub, Int.reduceToNat, s0, s1, s5, hlt, hlt2, he2, decide_eq_false this]
  rw [decide_eq_false (p := ¬ ((nth xs i).1, (nth xs i).2) = ((nth ys i).1, (nth ys i).2)) (fun h => h he)] at he2
  simp (disch := first | (simp only [go_sem, Bool.and_self, eq_self]; done) | omega | (simp only [List.length_cons, List.length_nil]; omega)) only [go_sem, ↓reduceIte, Nat.reduceEqDiff, Nat.reduceAdd, Nat.reduceMul, Nat.reduceSub, Int.reduceToNat, s0, s1, s5, hlt, hlt2, he2]
  rw [ForK_normal]
  refine ⟨hlt, by simp (disch := first | (simp only [go_sem, Bool.and_self, eq_self]; done) | omega | (simp only [List.length_cons, List.length_nil]; omega)) only [go_sem, ↓reduceIte, Nat.reduceEqDiff, Nat.reduceAdd, Nat.reduceMul, Nat.reduceSub, Int.reduceToNat, s5], by simp (disch := first | (simp only [go_sem, Bool.and_self, eq_self]; done) | omega | (simp only [List.length_cons, List.length_nil]; omega)) only [go_sem, ↓reduceIte, Nat.reduceEqDiff, Nat.reduceAdd, Nat.reduceMul, Nat.reduceSub, Int.reduceToNat, s0], by simp (disch := first | (simp only [go_sem, Bool.and_self, eq_self]; done) | omega | (simp only [List.length_cons, List.length_nil]; omega)) only [go_sem, ↓reduceIte, Nat.reduceEqDiff, Nat.reduceAdd, Nat.reduceMul, Nat.reduceSub, Int.reduceToNat, s1], fun j hj => ?_⟩
  rcases Nat.lt_or_ge j i with h | h
  · exact heq j h
  · rwa [show j = i by omega]
theorem k27 (xs ys : List (Int × Int)) (hx : xs.length ≤ 9223372036854775807) : ConW Try.prog cfg 27 h (some ([LP xs, LP ys], h')) K = K (.bool (decide (xs = ys))) h := ConW_num (f27_con xs ys hx) rfl
end Go.Proofs.Ytkjdnnedncomgaa
