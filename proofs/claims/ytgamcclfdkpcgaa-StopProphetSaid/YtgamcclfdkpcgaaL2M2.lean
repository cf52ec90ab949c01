/-
  Offers: the reference.
  The laws' own configuration: what awake answers is known, and what the functions below the laws answer.
  'StopProphet' answers true.
-/
import Derived.Test.YtgamcclfdkpcgaaL2M1
set_option linter.unusedVariables false
set_option linter.unusedSimpArgs false
set_option maxRecDepth 10000
namespace Go.Proofs.Ytgamcclfdkpcgaa
open Go Go.Am

variable {h h' : Hp} {K : AV → Hp → Prop}

def DownK (c : Nat) (J : Nat → St → Hp → Prop) (m : Nat) (Q : Exit → St → Hp → Prop) : Exit → St → Hp → Prop := fun x st h => match x with | .normal => 0 < m ∧ st c = I ((m : Int) - 1 - 1) ∧ J (m - 1) st h | x => Q x st h
theorem DownK_normal (c : Nat) (J : Nat → St → Hp → Prop) (m : Nat) (Q : Exit → St → Hp → Prop) (st : St) : DownK c J m Q .normal st h = (0 < m ∧ st c = I ((m : Int) - 1 - 1) ∧ J (m - 1) st h) := rfl
@[go_sem ↓] theorem DownK_exit (c : Nat) (J : Nat → St → Hp → Prop) (m j : Nat) (Q : Exit → St → Hp → Prop) (st : St) : DownK c J m Q (.exit j) st h = Q (.exit j) st h := rfl
@[go_sem ↓] theorem DownK_ret (c : Nat) (J : Nat → St → Hp → Prop) (m : Nat) (Q : Exit → St → Hp → Prop) (st : St) : DownK c J m Q .ret st h = Q .ret st h := rfl
theorem WP_down {P : Program} {cfg : Cfg} {st : St} {h : Hp} {Q : Exit → St → Hp → Prop} {b : Code} (c n : Nat) (J : Nat → St → Hp → Prop) (h0 : st c = I ((n : Int) - 1)) (hJ : J n st h)
    (step : ∀ (m : Nat) st h, m ≤ n → st c = I ((m : Int) - 1) → J m st h → WP P cfg b st h (DownK c J m Q)) : WP P cfg (.loop b) st h Q := by
  refine WP_loopK (fun m st h => m ≤ n ∧ st c = I ((m : Int) - 1) ∧ J m st h) n ⟨Nat.le_refl _, h0, hJ⟩ ?_
  rintro m st h ⟨hm, hc, hj⟩
  refine WP_mono (step m st h hm hc hj) fun x s' g hx => ?_
  cases x with
  | normal =>
    obtain ⟨h1, h2, h3⟩ := hx
    exact ⟨m - 1, by omega, by omega, by rw [h2]; congr 1; omega, h3⟩
  | exit j => exact hx
  | _ => exact hx

theorem prodN_b {f : Nat → Int} : ∀ {n : Nat}, (∀ i, i < n → 0 ≤ f i ∧ f i ≤ 16) → 0 ≤ prodN f n ∧ prodN f n ≤ pw n
  | 0, _ => by simp [prodN, pw]
  | n + 1, h => by
    obtain ⟨h1, h2⟩ := prodN_b fun i hi => h i (Nat.lt_succ_of_lt hi)
    obtain ⟨h3, h4⟩ := h n (Nat.lt_succ_self n)
    rw [prodN, pw_succ, Int.mul_comm]
    exact ⟨Int.mul_nonneg h3 h1, Int.mul_le_mul h4 h2 h1 (by decide)⟩
theorem pw_mono {j k : Nat} (h : j ≤ k) : pw j ≤ pw k := by
  obtain ⟨d, rfl⟩ : ∃ d, k = j + d := ⟨k - j, by omega⟩
  induction d with
  | zero => exact Int.le_refl _
  | succ d ih =>
    have h1 := ih (by omega)
    have h2 := pw_pos (j + d)
    rw [← Nat.add_assoc, pw_succ]; omega
theorem belO_b {o : List (Int × Int)} (ho : OffOK o) (x : Int) : 0 ≤ belO x o ∧ belO x o ≤ 16 := by
  have e : belO x o = sumO o fun q => if q.1 < x then q.2 else 0 := rfl
  rw [e]
  refine ⟨sumO_nonneg fun q hq => ?_, ?_⟩
  · have := ho.x q hq; split <;> omega
  · rw [← ho.sum]; exact sumO_le fun q hq => by have := ho.x q hq; split <;> omega

theorem f42_con (l : List (List (Int × Int))) (hl : Offs l) : Con Try.prog cfg 42 [LLP l] (FR (rdP (gI l 0) (pw l.length))) := by
  have hn := hl.len
  rw [great_ref hl.ok 0 (by decide)]
  have hf : (fun x : Nat => pw l.length - (if (0 : Int) < (x : Int) + 1 then belI ((x : Int) + 1) l else 0)) = fun x : Nat => pw l.length - belI ((x : Int) + 1) l := by
    funext x; rw [if_pos (by omega)]
  rw [hf]
  have hpl := pw_le hn
  have hbel := fun x => bel_b hl.ok x
  refine Con_intro Try.func42 rfl ok42 (Nat.le_of_ble_eq_true rfl) rfl ?_
  simp only [Try.f42, Option.getD_some, initSt1]
  simp (disch := first | (simp only [go_sem, Bool.and_self, eq_self]; done) | omega | (simp only [List.length_cons, List.length_nil]; omega)) only [go_sem, ↓reduceIte, Nat.reduceEqDiff, Nat.reduceAdd, Nat.reduceMul, Nat.reduceSub, Int.reduceToNat, Nat.reduceBEq, List.size_toArray, List.length_cons, List.length_nil, Bool.false_and, Bool.true_and, Bool.or_false, Bool.false_or, Bool.and_false, Bool.and_true]
  refine WP_cut (fun st h => st 0 = LLP l ∧ st 2 = .ptr 0 0 ∧ st 3 = I (pw l.length) ∧ h.bl 0 = some (.cells false false [I 0, I 0])) ?_ ?_
  · refine WP_for 4 l.length (fun i st h => st 0 = LLP l ∧ st 2 = .ptr 0 0 ∧ st 3 = I (pw i) ∧ h.bl 0 = some (.cells false false [I 0, I 0])) (by simp (disch := first | (simp only [go_sem, Bool.and_self, eq_self]; done) | omega | (simp only [List.length_cons, List.length_nil]; omega)) only [go_sem, ↓reduceIte, Nat.reduceEqDiff, Nat.reduceAdd, Nat.reduceMul, Nat.reduceSub, Int.reduceToNat, Nat.reduceBEq, List.size_toArray, List.length_cons, List.length_nil, Bool.false_and, Bool.true_and, Bool.or_false, Bool.false_or, Bool.and_false, Bool.and_true]) ⟨by simp (disch := first | (simp only [go_sem, Bool.and_self, eq_self]; done) | omega | (simp only [List.length_cons, List.length_nil]; omega)) only [go_sem, ↓reduceIte, Nat.reduceEqDiff, Nat.reduceAdd, Nat.reduceMul, Nat.reduceSub, Int.reduceToNat, Nat.reduceBEq, List.size_toArray, List.length_cons, List.length_nil, Bool.false_and, Bool.true_and, Bool.or_false, Bool.false_or, Bool.and_false, Bool.and_true], by simp (disch := first | (simp only [go_sem, Bool.and_self, eq_self]; done) | omega | (simp only [List.length_cons, List.length_nil]; omega)) only [go_sem, ↓reduceIte, Nat.reduceEqDiff, Nat.reduceAdd, Nat.reduceMul, Nat.reduceSub, Int.reduceToNat, Nat.reduceBEq, List.size_toArray, List.length_cons, List.length_nil, Bool.false_and, Bool.true_and, Bool.or_false, Bool.false_or, Bool.and_false, Bool.and_true], by simp (disch := first | (simp only [go_sem, Bool.and_self, eq_self]; done) | omega | (simp only [List.length_cons, List.length_nil]; omega)) only [go_sem, ↓reduceIte, Nat.reduceEqDiff, Nat.reduceAdd, Nat.reduceMul, Nat.reduceSub, Int.reduceToNat, Nat.reduceBEq, List.size_toArray, List.length_cons, List.length_nil, Bool.false_and, Bool.true_and, Bool.or_false, Bool.false_or, Bool.and_false, Bool.and_true]; rfl, by simp (disch := first | (simp only [go_sem, Bool.and_self, eq_self]; done) | omega | (simp only [List.length_cons, List.length_nil]; omega)) only [go_sem, ↓reduceIte, Nat.reduceEqDiff, Nat.reduceAdd, Nat.reduceMul, Nat.reduceSub, Int.reduceToNat, Nat.reduceBEq, List.size_toArray, List.length_cons, List.length_nil, Bool.false_and, Bool.true_and, Bool.or_false, Bool.false_or, Bool.and_false, Bool.and_true]⟩ ?_
    rintro i st h hi s4 ⟨s0, s2, s3, b0⟩
    by_cases hlt : i < l.length
    case neg =>
      have hie : i = l.length := by omega
      subst hie
      simp (disch := first | (simp only [go_sem, Bool.and_self, eq_self]; done) | omega | (simp only [List.length_cons, List.length_nil]; omega)) only [go_sem, ↓reduceIte, Nat.reduceEqDiff, Nat.reduceAdd, Nat.reduceMul, Nat.reduceSub, Int.reduceToNat, Nat.reduceBEq, List.size_toArray, List.length_cons, List.length_nil, Bool.false_and, Bool.true_and, Bool.or_false, Bool.false_or, Bool.and_false, Bool.and_true, s0, s2, s3, s4, hlt, b0]
    have hp := pw_le (show i + 1 ≤ 6 by omega)
    have hps := pw_succ i
    simp (disch := first | (simp only [go_sem, Bool.and_self, eq_self]; done) | omega | (simp only [List.length_cons, List.length_nil]; omega)) only [go_sem, ↓reduceIte, Nat.reduceEqDiff, Nat.reduceAdd, Nat.reduceMul, Nat.reduceSub, Int.reduceToNat, Nat.reduceBEq, List.size_toArray, List.length_cons, List.length_nil, Bool.false_and, Bool.true_and, Bool.or_false, Bool.false_or, Bool.and_false, Bool.and_true, s0, s2, s3, s4, hlt]
    rw [ForK_normal]
    exact ⟨hlt, by simp (disch := first | (simp only [go_sem, Bool.and_self, eq_self]; done) | omega | (simp only [List.length_cons, List.length_nil]; omega)) only [go_sem, ↓reduceIte, Nat.reduceEqDiff, Nat.reduceAdd, Nat.reduceMul, Nat.reduceSub, Int.reduceToNat, Nat.reduceBEq, List.size_toArray, List.length_cons, List.length_nil, Bool.false_and, Bool.true_and, Bool.or_false, Bool.false_or, Bool.and_false, Bool.and_true, s4], by simp (disch := first | (simp only [go_sem, Bool.and_self, eq_self]; done) | omega | (simp only [List.length_cons, List.length_nil]; omega)) only [go_sem, ↓reduceIte, Nat.reduceEqDiff, Nat.reduceAdd, Nat.reduceMul, Nat.reduceSub, Int.reduceToNat, Nat.reduceBEq, List.size_toArray, List.length_cons, List.length_nil, Bool.false_and, Bool.true_and, Bool.or_false, Bool.false_or, Bool.and_false, Bool.and_true, s0], by simp (disch := first | (simp only [go_sem, Bool.and_self, eq_self]; done) | omega | (simp only [List.length_cons, List.length_nil]; omega)) only [go_sem, ↓reduceIte, Nat.reduceEqDiff, Nat.reduceAdd, Nat.reduceMul, Nat.reduceSub, Int.reduceToNat, Nat.reduceBEq, List.size_toArray, List.length_cons, List.length_nil, Bool.false_and, Bool.true_and, Bool.or_false, Bool.false_or, Bool.and_false, Bool.and_true, s2], by rw [hps]; simp (disch := first | (simp only [go_sem, Bool.and_self, eq_self]; done) | omega | (simp only [List.length_cons, List.length_nil]; omega)) only [go_sem, ↓reduceIte, Nat.reduceEqDiff, Nat.reduceAdd, Nat.reduceMul, Nat.reduceSub, Int.reduceToNat, Nat.reduceBEq, List.size_toArray, List.length_cons, List.length_nil, Bool.false_and, Bool.true_and, Bool.or_false, Bool.false_or, Bool.and_false, Bool.and_true], b0⟩
  rintro st h ⟨s0, s2, s3, b0⟩
  generalize pw l.length = W at *
  simp (disch := first | (simp only [go_sem, Bool.and_self, eq_self]; done) | omega | (simp only [List.length_cons, List.length_nil]; omega)) only [go_sem, ↓reduceIte, Nat.reduceEqDiff, Nat.reduceAdd, Nat.reduceMul, Nat.reduceSub, Int.reduceToNat, Nat.reduceBEq, List.size_toArray, List.length_cons, List.length_nil, Bool.false_and, Bool.true_and, Bool.or_false, Bool.false_or, Bool.and_false, Bool.and_true, s0, s2, s3]
  refine WP_cut (fun st h => st 0 = LLP l ∧ st 2 = .ptr 0 0 ∧ st 3 = I W ∧ h.bl 0 = some (.cells false false [I 0, I 0]) ∧ st 5 = I (sumN (fun x => W - belI ((x : Int) + 1) l) 1000)) ?_ ?_
  · refine WP_for1 6 1000 (fun x st h => st 0 = LLP l ∧ st 2 = .ptr 0 0 ∧ st 3 = I W ∧ h.bl 0 = some (.cells false false [I 0, I 0]) ∧ st 5 = I (sumN (fun x => W - belI ((x : Int) + 1) l) x)) (by simp (disch := first | (simp only [go_sem, Bool.and_self, eq_self]; done) | omega | (simp only [List.length_cons, List.length_nil]; omega)) only [go_sem, ↓reduceIte, Nat.reduceEqDiff, Nat.reduceAdd, Nat.reduceMul, Nat.reduceSub, Int.reduceToNat, Nat.reduceBEq, List.size_toArray, List.length_cons, List.length_nil, Bool.false_and, Bool.true_and, Bool.or_false, Bool.false_or, Bool.and_false, Bool.and_true]) ⟨by simp (disch := first | (simp only [go_sem, Bool.and_self, eq_self]; done) | omega | (simp only [List.length_cons, List.length_nil]; omega)) only [go_sem, ↓reduceIte, Nat.reduceEqDiff, Nat.reduceAdd, Nat.reduceMul, Nat.reduceSub, Int.reduceToNat, Nat.reduceBEq, List.size_toArray, List.length_cons, List.length_nil, Bool.false_and, Bool.true_and, Bool.or_false, Bool.false_or, Bool.and_false, Bool.and_true, s0], by simp (disch := first | (simp only [go_sem, Bool.and_self, eq_self]; done) | omega | (simp only [List.length_cons, List.length_nil]; omega)) only [go_sem, ↓reduceIte, Nat.reduceEqDiff, Nat.reduceAdd, Nat.reduceMul, Nat.reduceSub, Int.reduceToNat, Nat.reduceBEq, List.size_toArray, List.length_cons, List.length_nil, Bool.false_and, Bool.true_and, Bool.or_false, Bool.false_or, Bool.and_false, Bool.and_true, s2], by simp (disch := first | (simp only [go_sem, Bool.and_self, eq_self]; done) | omega | (simp only [List.length_cons, List.length_nil]; omega)) only [go_sem, ↓reduceIte, Nat.reduceEqDiff, Nat.reduceAdd, Nat.reduceMul, Nat.reduceSub, Int.reduceToNat, Nat.reduceBEq, List.size_toArray, List.length_cons, List.length_nil, Bool.false_and, Bool.true_and, Bool.or_false, Bool.false_or, Bool.and_false, Bool.and_true, s3], b0, by simp (disch := first | (simp only [go_sem, Bool.and_self, eq_self]; done) | omega | (simp only [List.length_cons, List.length_nil]; omega)) only [go_sem, ↓reduceIte, Nat.reduceEqDiff, Nat.reduceAdd, Nat.reduceMul, Nat.reduceSub, Int.reduceToNat, Nat.reduceBEq, List.size_toArray, List.length_cons, List.length_nil, Bool.false_and, Bool.true_and, Bool.or_false, Bool.false_or, Bool.and_false, Bool.and_true]; rfl⟩ ?_
    rintro x st h hx s6 ⟨s0, s2, s3, b0, s5⟩
    by_cases hlt : (x : Int) + 1 ≤ 1000
    case neg =>
      have hxe : x = 1000 := by omega
      subst hxe
      simp (disch := first | (simp only [go_sem, Bool.and_self, eq_self]; done) | omega | (simp only [List.length_cons, List.length_nil]; omega)) only [go_sem, ↓reduceIte, Nat.reduceEqDiff, Nat.reduceAdd, Nat.reduceMul, Nat.reduceSub, Int.reduceToNat, Nat.reduceBEq, List.size_toArray, List.length_cons, List.length_nil, Bool.false_and, Bool.true_and, Bool.or_false, Bool.false_or, Bool.and_false, Bool.and_true, s0, s2, s3, s5, s6, hlt, b0]
    have hst : sumN (fun x => W - belI ((x : Int) + 1) l) (x + 1) = sumN (fun x => W - belI ((x : Int) + 1) l) x + (W - belI ((x : Int) + 1) l) := rfl
    have hsb := sumN_bounds (f := fun x : Nat => W - belI ((x : Int) + 1) l) (lo := 0) (hi := 16777216) (n := x) fun i _ => by
      have := hbel ((i : Int) + 1)
      show 0 ≤ W - _ ∧ W - _ ≤ 16777216
      omega
    have hbx := hbel ((x : Int) + 1)
    generalize sumN (fun x => W - belI ((x : Int) + 1) l) x = s at *
    simp (disch := first | (simp only [go_sem, Bool.and_self, eq_self]; done) | omega | (simp only [List.length_cons, List.length_nil]; omega)) only [go_sem, ↓reduceIte, Nat.reduceEqDiff, Nat.reduceAdd, Nat.reduceMul, Nat.reduceSub, Int.reduceToNat, Nat.reduceBEq, List.size_toArray, List.length_cons, List.length_nil, Bool.false_and, Bool.true_and, Bool.or_false, Bool.false_or, Bool.and_false, Bool.and_true, s0, s2, s3, s5, s6, hlt]
    refine WP_cut (fun st h => st 0 = LLP l ∧ st 2 = .ptr 0 0 ∧ st 3 = I W ∧ st 5 = I s ∧ st 6 = I ((x : Int) + 1) ∧ h.bl 0 = some (.cells false false [I 0, I 0]) ∧ st 7 = I (belI ((x : Int) + 1) l)) ?_ ?_
    · refine WP_for 8 l.length (fun j st h => st 0 = LLP l ∧ st 2 = .ptr 0 0 ∧ st 3 = I W ∧ st 5 = I s ∧ st 6 = I ((x : Int) + 1) ∧ h.bl 0 = some (.cells false false [I 0, I 0]) ∧ st 7 = I (prodN (fun i => belO ((x : Int) + 1) (nth l i)) j)) (by simp (disch := first | (simp only [go_sem, Bool.and_self, eq_self]; done) | omega | (simp only [List.length_cons, List.length_nil]; omega)) only [go_sem, ↓reduceIte, Nat.reduceEqDiff, Nat.reduceAdd, Nat.reduceMul, Nat.reduceSub, Int.reduceToNat, Nat.reduceBEq, List.size_toArray, List.length_cons, List.length_nil, Bool.false_and, Bool.true_and, Bool.or_false, Bool.false_or, Bool.and_false, Bool.and_true]) ⟨by simp (disch := first | (simp only [go_sem, Bool.and_self, eq_self]; done) | omega | (simp only [List.length_cons, List.length_nil]; omega)) only [go_sem, ↓reduceIte, Nat.reduceEqDiff, Nat.reduceAdd, Nat.reduceMul, Nat.reduceSub, Int.reduceToNat, Nat.reduceBEq, List.size_toArray, List.length_cons, List.length_nil, Bool.false_and, Bool.true_and, Bool.or_false, Bool.false_or, Bool.and_false, Bool.and_true, s0], by simp (disch := first | (simp only [go_sem, Bool.and_self, eq_self]; done) | omega | (simp only [List.length_cons, List.length_nil]; omega)) only [go_sem, ↓reduceIte, Nat.reduceEqDiff, Nat.reduceAdd, Nat.reduceMul, Nat.reduceSub, Int.reduceToNat, Nat.reduceBEq, List.size_toArray, List.length_cons, List.length_nil, Bool.false_and, Bool.true_and, Bool.or_false, Bool.false_or, Bool.and_false, Bool.and_true, s2], by simp (disch := first | (simp only [go_sem, Bool.and_self, eq_self]; done) | omega | (simp only [List.length_cons, List.length_nil]; omega)) only [go_sem, ↓reduceIte, Nat.reduceEqDiff, Nat.reduceAdd, Nat.reduceMul, Nat.reduceSub, Int.reduceToNat, Nat.reduceBEq, List.size_toArray, List.length_cons, List.length_nil, Bool.false_and, Bool.true_and, Bool.or_false, Bool.false_or, Bool.and_false, Bool.and_true, s3], by simp (disch := first | (simp only [go_sem, Bool.and_self, eq_self]; done) | omega | (simp only [List.length_cons, List.length_nil]; omega)) only [go_sem, ↓reduceIte, Nat.reduceEqDiff, Nat.reduceAdd, Nat.reduceMul, Nat.reduceSub, Int.reduceToNat, Nat.reduceBEq, List.size_toArray, List.length_cons, List.length_nil, Bool.false_and, Bool.true_and, Bool.or_false, Bool.false_or, Bool.and_false, Bool.and_true, s5], by simp (disch := first | (simp only [go_sem, Bool.and_self, eq_self]; done) | omega | (simp only [List.length_cons, List.length_nil]; omega)) only [go_sem, ↓reduceIte, Nat.reduceEqDiff, Nat.reduceAdd, Nat.reduceMul, Nat.reduceSub, Int.reduceToNat, Nat.reduceBEq, List.size_toArray, List.length_cons, List.length_nil, Bool.false_and, Bool.true_and, Bool.or_false, Bool.false_or, Bool.and_false, Bool.and_true, s6], b0, by simp (disch := first | (simp only [go_sem, Bool.and_self, eq_self]; done) | omega | (simp only [List.length_cons, List.length_nil]; omega)) only [go_sem, ↓reduceIte, Nat.reduceEqDiff, Nat.reduceAdd, Nat.reduceMul, Nat.reduceSub, Int.reduceToNat, Nat.reduceBEq, List.size_toArray, List.length_cons, List.length_nil, Bool.false_and, Bool.true_and, Bool.or_false, Bool.false_or, Bool.and_false, Bool.and_true]; rfl⟩ ?_
      rintro j st h hj s8 ⟨s0, s2, s3, s5, s6, b0, s7⟩
      by_cases hjl : j < l.length
      case neg =>
        have hje : j = l.length := by omega
        subst hje
        simp (disch := first | (simp only [go_sem, Bool.and_self, eq_self]; done) | omega | (simp only [List.length_cons, List.length_nil]; omega)) only [go_sem, ↓reduceIte, Nat.reduceEqDiff, Nat.reduceAdd, Nat.reduceMul, Nat.reduceSub, Int.reduceToNat, Nat.reduceBEq, List.size_toArray, List.length_cons, List.length_nil, Bool.false_and, Bool.true_and, Bool.or_false, Bool.false_or, Bool.and_false, Bool.and_true, s0, s2, s3, s5, s6, s7, s8, hjl, b0]
        rfl
      have hoo := hl.ok _ (nth_mem hjl)
      have hpb := prodN_b (f := fun i => belO ((x : Int) + 1) (nth l i)) (n := j) fun i hi => belO_b (hl.ok _ (nth_mem (by omega))) _
      have hpj := pw_le (show j ≤ 6 by omega)
      have hob := belO_b hoo ((x : Int) + 1)
      have hst2 : prodN (fun i => belO ((x : Int) + 1) (nth l i)) (j + 1) = prodN (fun i => belO ((x : Int) + 1) (nth l i)) j * belO ((x : Int) + 1) (nth l j) := rfl
      have hbo : belO ((x : Int) + 1) (nth l j) = sumN (fun i => if (nth (nth l j) i).1 < (x : Int) + 1 then (nth (nth l j) i).2 else 0) (nth l j).length := rfl
      generalize prodN (fun i => belO ((x : Int) + 1) (nth l i)) j = p at *
      generalize ho : nth l j = o at *
      simp (disch := first | (simp only [go_sem, Bool.and_self, eq_self]; done) | omega | (simp only [List.length_cons, List.length_nil]; omega)) only [go_sem, ↓reduceIte, Nat.reduceEqDiff, Nat.reduceAdd, Nat.reduceMul, Nat.reduceSub, Int.reduceToNat, Nat.reduceBEq, List.size_toArray, List.length_cons, List.length_nil, Bool.false_and, Bool.true_and, Bool.or_false, Bool.false_or, Bool.and_false, Bool.and_true, s0, s2, s3, s5, s6, s7, s8, hjl]
      refine WP_cut (fun st h => st 0 = LLP l ∧ st 2 = .ptr 0 0 ∧ st 3 = I W ∧ st 5 = I s ∧ st 6 = I ((x : Int) + 1) ∧ st 7 = I p ∧ st 8 = I j ∧ h.bl 0 = some (.cells false false [I 0, I 0]) ∧ st 9 = I (belO ((x : Int) + 1) o)) ?_ ?_
      · refine WP_for 10 o.length (fun m st h => st 0 = LLP l ∧ st 2 = .ptr 0 0 ∧ st 3 = I W ∧ st 5 = I s ∧ st 6 = I ((x : Int) + 1) ∧ st 7 = I p ∧ st 8 = I j ∧ h.bl 0 = some (.cells false false [I 0, I 0]) ∧ st 9 = I (sumN (fun i => if (nth o i).1 < (x : Int) + 1 then (nth o i).2 else 0) m)) (by simp (disch := first | (simp only [go_sem, Bool.and_self, eq_self]; done) | omega | (simp only [List.length_cons, List.length_nil]; omega)) only [go_sem, ↓reduceIte, Nat.reduceEqDiff, Nat.reduceAdd, Nat.reduceMul, Nat.reduceSub, Int.reduceToNat, Nat.reduceBEq, List.size_toArray, List.length_cons, List.length_nil, Bool.false_and, Bool.true_and, Bool.or_false, Bool.false_or, Bool.and_false, Bool.and_true]) ⟨by simp (disch := first | (simp only [go_sem, Bool.and_self, eq_self]; done) | omega | (simp only [List.length_cons, List.length_nil]; omega)) only [go_sem, ↓reduceIte, Nat.reduceEqDiff, Nat.reduceAdd, Nat.reduceMul, Nat.reduceSub, Int.reduceToNat, Nat.reduceBEq, List.size_toArray, List.length_cons, List.length_nil, Bool.false_and, Bool.true_and, Bool.or_false, Bool.false_or, Bool.and_false, Bool.and_true, s0], by simp (disch := first | (simp only [go_sem, Bool.and_self, eq_self]; done) | omega | (simp only [List.length_cons, List.length_nil]; omega)) only [go_sem, ↓reduceIte, Nat.reduceEqDiff, Nat.reduceAdd, Nat.reduceMul, Nat.reduceSub, Int.reduceToNat, Nat.reduceBEq, List.size_toArray, List.length_cons, List.length_nil, Bool.false_and, Bool.true_and, Bool.or_false, Bool.false_or, Bool.and_false, Bool.and_true, s2], by simp (disch := first | (simp only [go_sem, Bool.and_self, eq_self]; done) | omega | (simp only [List.length_cons, List.length_nil]; omega)) only [go_sem, ↓reduceIte, Nat.reduceEqDiff, Nat.reduceAdd, Nat.reduceMul, Nat.reduceSub, Int.reduceToNat, Nat.reduceBEq, List.size_toArray, List.length_cons, List.length_nil, Bool.false_and, Bool.true_and, Bool.or_false, Bool.false_or, Bool.and_false, Bool.and_true, s3], by simp (disch := first | (simp only [go_sem, Bool.and_self, eq_self]; done) | omega | (simp only [List.length_cons, List.length_nil]; omega)) only [go_sem, ↓reduceIte, Nat.reduceEqDiff, Nat.reduceAdd, Nat.reduceMul, Nat.reduceSub, Int.reduceToNat, Nat.reduceBEq, List.size_toArray, List.length_cons, List.length_nil, Bool.false_and, Bool.true_and, Bool.or_false, Bool.false_or, Bool.and_false, Bool.and_true, s5], by simp (disch := first | (simp only [go_sem, Bool.and_self, eq_self]; done) | omega | (simp only [List.length_cons, List.length_nil]; omega)) only [go_sem, ↓reduceIte, Nat.reduceEqDiff, Nat.reduceAdd, Nat.reduceMul, Nat.reduceSub, Int.reduceToNat, Nat.reduceBEq, List.size_toArray, List.length_cons, List.length_nil, Bool.false_and, Bool.true_and, Bool.or_false, Bool.false_or, Bool.and_false, Bool.and_true, s6], by simp (disch := first | (simp only [go_sem, Bool.and_self, eq_self]; done) | omega | (simp only [List.length_cons, List.length_nil]; omega)) only [go_sem, ↓reduceIte, Nat.reduceEqDiff, Nat.reduceAdd, Nat.reduceMul, Nat.reduceSub, Int.reduceToNat, Nat.reduceBEq, List.size_toArray, List.length_cons, List.length_nil, Bool.false_and, Bool.true_and, Bool.or_false, Bool.false_or, Bool.and_false, Bool.and_true, s7], by simp (disch := first | (simp only [go_sem, Bool.and_self, eq_self]; done) | omega | (simp only [List.length_cons, List.length_nil]; omega)) only [go_sem, ↓reduceIte, Nat.reduceEqDiff, Nat.reduceAdd, Nat.reduceMul, Nat.reduceSub, Int.reduceToNat, Nat.reduceBEq, List.size_toArray, List.length_cons, List.length_nil, Bool.false_and, Bool.true_and, Bool.or_false, Bool.false_or, Bool.and_false, Bool.and_true, s8], b0, by simp (disch := first | (simp only [go_sem, Bool.and_self, eq_self]; done) | omega | (simp only [List.length_cons, List.length_nil]; omega)) only [go_sem, ↓reduceIte, Nat.reduceEqDiff, Nat.reduceAdd, Nat.reduceMul, Nat.reduceSub, Int.reduceToNat, Nat.reduceBEq, List.size_toArray, List.length_cons, List.length_nil, Bool.false_and, Bool.true_and, Bool.or_false, Bool.false_or, Bool.and_false, Bool.and_true]; rfl⟩ ?_
        rintro m st h hm s10 ⟨s0, s2, s3, s5, s6, s7, s8, b0, s9⟩
        by_cases hmo : m < o.length
        case neg =>
          have hme : m = o.length := by omega
          subst hme
          simp (disch := first | (simp only [go_sem, Bool.and_self, eq_self]; done) | omega | (simp only [List.length_cons, List.length_nil]; omega)) only [go_sem, ↓reduceIte, Nat.reduceEqDiff, Nat.reduceAdd, Nat.reduceMul, Nat.reduceSub, Int.reduceToNat, Nat.reduceBEq, List.size_toArray, List.length_cons, List.length_nil, Bool.false_and, Bool.true_and, Bool.or_false, Bool.false_or, Bool.and_false, Bool.and_true, s0, s2, s3, s5, s6, s7, s8, s9, s10, hjl, hmo, ho, b0, hbo]
        have hol := hoo.len
        have hxm := hoo.x _ (nth_mem hmo)
        have hmb := sumN_bounds (f := fun i => if (nth o i).1 < (x : Int) + 1 then (nth o i).2 else 0) (lo := 0) (hi := 16) (n := m) fun i hi => by
          have := hoo.x _ (nth_mem (show i < o.length by omega))
          show 0 ≤ (if (nth o i).1 < (x : Int) + 1 then (nth o i).2 else 0) ∧ (if (nth o i).1 < (x : Int) + 1 then (nth o i).2 else 0) ≤ 16
          split <;> omega
        have hst3 : sumN (fun i => if (nth o i).1 < (x : Int) + 1 then (nth o i).2 else 0) (m + 1) = sumN (fun i => if (nth o i).1 < (x : Int) + 1 then (nth o i).2 else 0) m + (if (nth o m).1 < (x : Int) + 1 then (nth o m).2 else 0) := rfl
        generalize sumN (fun i => if (nth o i).1 < (x : Int) + 1 then (nth o i).2 else 0) m = z at *
        by_cases c : (nth o m).1 < (x : Int) + 1
        · rw [if_pos c] at hst3
          simp (disch := first | (simp only [go_sem, Bool.and_self, eq_self]; done) | omega | (simp only [List.length_cons, List.length_nil]; omega)) only [go_sem, ↓reduceIte, Nat.reduceEqDiff, Nat.reduceAdd, Nat.reduceMul, Nat.reduceSub, Int.reduceToNat, Nat.reduceBEq, List.size_toArray, List.length_cons, List.length_nil, Bool.false_and, Bool.true_and, Bool.or_false, Bool.false_or, Bool.and_false, Bool.and_true, s0, s2, s3, s5, s6, s7, s8, s9, s10, hjl, hmo, ho, c, List.drop_succ_cons]
          rw [ForK_normal]
          exact ⟨hmo, by simp (disch := first | (simp only [go_sem, Bool.and_self, eq_self]; done) | omega | (simp only [List.length_cons, List.length_nil]; omega)) only [go_sem, ↓reduceIte, Nat.reduceEqDiff, Nat.reduceAdd, Nat.reduceMul, Nat.reduceSub, Int.reduceToNat, Nat.reduceBEq, List.size_toArray, List.length_cons, List.length_nil, Bool.false_and, Bool.true_and, Bool.or_false, Bool.false_or, Bool.and_false, Bool.and_true, s10], by simp (disch := first | (simp only [go_sem, Bool.and_self, eq_self]; done) | omega | (simp only [List.length_cons, List.length_nil]; omega)) only [go_sem, ↓reduceIte, Nat.reduceEqDiff, Nat.reduceAdd, Nat.reduceMul, Nat.reduceSub, Int.reduceToNat, Nat.reduceBEq, List.size_toArray, List.length_cons, List.length_nil, Bool.false_and, Bool.true_and, Bool.or_false, Bool.false_or, Bool.and_false, Bool.and_true, s0], by simp (disch := first | (simp only [go_sem, Bool.and_self, eq_self]; done) | omega | (simp only [List.length_cons, List.length_nil]; omega)) only [go_sem, ↓reduceIte, Nat.reduceEqDiff, Nat.reduceAdd, Nat.reduceMul, Nat.reduceSub, Int.reduceToNat, Nat.reduceBEq, List.size_toArray, List.length_cons, List.length_nil, Bool.false_and, Bool.true_and, Bool.or_false, Bool.false_or, Bool.and_false, Bool.and_true, s2], by simp (disch := first | (simp only [go_sem, Bool.and_self, eq_self]; done) | omega | (simp only [List.length_cons, List.length_nil]; omega)) only [go_sem, ↓reduceIte, Nat.reduceEqDiff, Nat.reduceAdd, Nat.reduceMul, Nat.reduceSub, Int.reduceToNat, Nat.reduceBEq, List.size_toArray, List.length_cons, List.length_nil, Bool.false_and, Bool.true_and, Bool.or_false, Bool.false_or, Bool.and_false, Bool.and_true, s3], by simp (disch := first | (simp only [go_sem, Bool.and_self, eq_self]; done) | omega | (simp only [List.length_cons, List.length_nil]; omega)) only [go_sem, ↓reduceIte, Nat.reduceEqDiff, Nat.reduceAdd, Nat.reduceMul, Nat.reduceSub, Int.reduceToNat, Nat.reduceBEq, List.size_toArray, List.length_cons, List.length_nil, Bool.false_and, Bool.true_and, Bool.or_false, Bool.false_or, Bool.and_false, Bool.and_true, s5], by simp (disch := first | (simp only [go_sem, Bool.and_self, eq_self]; done) | omega | (simp only [List.length_cons, List.length_nil]; omega)) only [go_sem, ↓reduceIte, Nat.reduceEqDiff, Nat.reduceAdd, Nat.reduceMul, Nat.reduceSub, Int.reduceToNat, Nat.reduceBEq, List.size_toArray, List.length_cons, List.length_nil, Bool.false_and, Bool.true_and, Bool.or_false, Bool.false_or, Bool.and_false, Bool.and_true, s6], by simp (disch := first | (simp only [go_sem, Bool.and_self, eq_self]; done) | omega | (simp only [List.length_cons, List.length_nil]; omega)) only [go_sem, ↓reduceIte, Nat.reduceEqDiff, Nat.reduceAdd, Nat.reduceMul, Nat.reduceSub, Int.reduceToNat, Nat.reduceBEq, List.size_toArray, List.length_cons, List.length_nil, Bool.false_and, Bool.true_and, Bool.or_false, Bool.false_or, Bool.and_false, Bool.and_true, s7], by simp (disch := first | (simp only [go_sem, Bool.and_self, eq_self]; done) | omega | (simp only [List.length_cons, List.length_nil]; omega)) only [go_sem, ↓reduceIte, Nat.reduceEqDiff, Nat.reduceAdd, Nat.reduceMul, Nat.reduceSub, Int.reduceToNat, Nat.reduceBEq, List.size_toArray, List.length_cons, List.length_nil, Bool.false_and, Bool.true_and, Bool.or_false, Bool.false_or, Bool.and_false, Bool.and_true, s8], b0, by rw [hst3]; simp (disch := first | (simp only [go_sem, Bool.and_self, eq_self]; done) | omega | (simp only [List.length_cons, List.length_nil]; omega)) only [go_sem, ↓reduceIte, Nat.reduceEqDiff, Nat.reduceAdd, Nat.reduceMul, Nat.reduceSub, Int.reduceToNat, Nat.reduceBEq, List.size_toArray, List.length_cons, List.length_nil, Bool.false_and, Bool.true_and, Bool.or_false, Bool.false_or, Bool.and_false, Bool.and_true]⟩
        · rw [if_neg c, Int.add_zero] at hst3
          simp (disch := first | (simp only [go_sem, Bool.and_self, eq_self]; done) | omega | (simp only [List.length_cons, List.length_nil]; omega)) only [go_sem, ↓reduceIte, Nat.reduceEqDiff, Nat.reduceAdd, Nat.reduceMul, Nat.reduceSub, Int.reduceToNat, Nat.reduceBEq, List.size_toArray, List.length_cons, List.length_nil, Bool.false_and, Bool.true_and, Bool.or_false, Bool.false_or, Bool.and_false, Bool.and_true, s0, s2, s3, s5, s6, s7, s8, s9, s10, hjl, hmo, ho, c]
          rw [ForK_normal]
          exact ⟨hmo, by simp (disch := first | (simp only [go_sem, Bool.and_self, eq_self]; done) | omega | (simp only [List.length_cons, List.length_nil]; omega)) only [go_sem, ↓reduceIte, Nat.reduceEqDiff, Nat.reduceAdd, Nat.reduceMul, Nat.reduceSub, Int.reduceToNat, Nat.reduceBEq, List.size_toArray, List.length_cons, List.length_nil, Bool.false_and, Bool.true_and, Bool.or_false, Bool.false_or, Bool.and_false, Bool.and_true, s10], by simp (disch := first | (simp only [go_sem, Bool.and_self, eq_self]; done) | omega | (simp only [List.length_cons, List.length_nil]; omega)) only [go_sem, ↓reduceIte, Nat.reduceEqDiff, Nat.reduceAdd, Nat.reduceMul, Nat.reduceSub, Int.reduceToNat, Nat.reduceBEq, List.size_toArray, List.length_cons, List.length_nil, Bool.false_and, Bool.true_and, Bool.or_false, Bool.false_or, Bool.and_false, Bool.and_true, s0], by simp (disch := first | (simp only [go_sem, Bool.and_self, eq_self]; done) | omega | (simp only [List.length_cons, List.length_nil]; omega)) only [go_sem, ↓reduceIte, Nat.reduceEqDiff, Nat.reduceAdd, Nat.reduceMul, Nat.reduceSub, Int.reduceToNat, Nat.reduceBEq, List.size_toArray, List.length_cons, List.length_nil, Bool.false_and, Bool.true_and, Bool.or_false, Bool.false_or, Bool.and_false, Bool.and_true, s2], by simp (disch := first | (simp only [go_sem, Bool.and_self, eq_self]; done) | omega | (simp only [List.length_cons, List.length_nil]; omega)) only [go_sem, ↓reduceIte, Nat.reduceEqDiff, Nat.reduceAdd, Nat.reduceMul, Nat.reduceSub, Int.reduceToNat, Nat.reduceBEq, List.size_toArray, List.length_cons, List.length_nil, Bool.false_and, Bool.true_and, Bool.or_false, Bool.false_or, Bool.and_false, Bool.and_true, s3], by simp (disch := first | (simp only [go_sem, Bool.and_self, eq_self]; done) | omega | (simp only [List.length_cons, List.length_nil]; omega)) only [go_sem, ↓reduceIte, Nat.reduceEqDiff, Nat.reduceAdd, Nat.reduceMul, Nat.reduceSub, Int.reduceToNat, Nat.reduceBEq, List.size_toArray, List.length_cons, List.length_nil, Bool.false_and, Bool.true_and, Bool.or_false, Bool.false_or, Bool.and_false, Bool.and_true, s5], by simp (disch := first | (simp only [go_sem, Bool.and_self, eq_self]; done) | omega | (simp only [List.length_cons, List.length_nil]; omega)) only [go_sem, ↓reduceIte, Nat.reduceEqDiff, Nat.reduceAdd, Nat.reduceMul, Nat.reduceSub, Int.reduceToNat, Nat.reduceBEq, List.size_toArray, List.length_cons, List.length_nil, Bool.false_and, Bool.true_and, Bool.or_false, Bool.false_or, Bool.and_false, Bool.and_true, s6], by simp (disch := first | (simp only [go_sem, Bool.and_self, eq_self]; done) | omega | (simp only [List.length_cons, List.length_nil]; omega)) only [go_sem, ↓reduceIte, Nat.reduceEqDiff, Nat.reduceAdd, Nat.reduceMul, Nat.reduceSub, Int.reduceToNat, Nat.reduceBEq, List.size_toArray, List.length_cons, List.length_nil, Bool.false_and, Bool.true_and, Bool.or_false, Bool.false_or, Bool.and_false, Bool.and_true, s7], by simp (disch := first | (simp only [go_sem, Bool.and_self, eq_self]; done) | omega | (simp only [List.length_cons, List.length_nil]; omega)) only [go_sem, ↓reduceIte, Nat.reduceEqDiff, Nat.reduceAdd, Nat.reduceMul, Nat.reduceSub, Int.reduceToNat, Nat.reduceBEq, List.size_toArray, List.length_cons, List.length_nil, Bool.false_and, Bool.true_and, Bool.or_false, Bool.false_or, Bool.and_false, Bool.and_true, s8], b0, by rw [hst3]; simp (disch := first | (simp only [go_sem, Bool.and_self, eq_self]; done) | omega | (simp only [List.length_cons, List.length_nil]; omega)) only [go_sem, ↓reduceIte, Nat.reduceEqDiff, Nat.reduceAdd, Nat.reduceMul, Nat.reduceSub, Int.reduceToNat, Nat.reduceBEq, List.size_toArray, List.length_cons, List.length_nil, Bool.false_and, Bool.true_and, Bool.or_false, Bool.false_or, Bool.and_false, Bool.and_true, s9]⟩
      · rintro st h ⟨s0, s2, s3, s5, s6, s7, s8, b0, s9⟩
        generalize belO ((x : Int) + 1) o = y at *
        have m1 : 0 ≤ p * y ∧ p * y ≤ 16777216 * 16 := ⟨Int.mul_nonneg hpb.1 hob.1, Int.mul_le_mul (by omega) hob.2 hob.1 (by omega)⟩
        simp (disch := first | (simp only [go_sem, Bool.and_self, eq_self]; done) | omega | (simp only [List.length_cons, List.length_nil]; omega)) only [go_sem, ↓reduceIte, Nat.reduceEqDiff, Nat.reduceAdd, Nat.reduceMul, Nat.reduceSub, Int.reduceToNat, Nat.reduceBEq, List.size_toArray, List.length_cons, List.length_nil, Bool.false_and, Bool.true_and, Bool.or_false, Bool.false_or, Bool.and_false, Bool.and_true, s0, s2, s3, s5, s6, s7, s8, s9]
        rw [ForK_normal]
        exact ⟨hjl, by simp (disch := first | (simp only [go_sem, Bool.and_self, eq_self]; done) | omega | (simp only [List.length_cons, List.length_nil]; omega)) only [go_sem, ↓reduceIte, Nat.reduceEqDiff, Nat.reduceAdd, Nat.reduceMul, Nat.reduceSub, Int.reduceToNat, Nat.reduceBEq, List.size_toArray, List.length_cons, List.length_nil, Bool.false_and, Bool.true_and, Bool.or_false, Bool.false_or, Bool.and_false, Bool.and_true, s8], by simp (disch := first | (simp only [go_sem, Bool.and_self, eq_self]; done) | omega | (simp only [List.length_cons, List.length_nil]; omega)) only [go_sem, ↓reduceIte, Nat.reduceEqDiff, Nat.reduceAdd, Nat.reduceMul, Nat.reduceSub, Int.reduceToNat, Nat.reduceBEq, List.size_toArray, List.length_cons, List.length_nil, Bool.false_and, Bool.true_and, Bool.or_false, Bool.false_or, Bool.and_false, Bool.and_true, s0], by simp (disch := first | (simp only [go_sem, Bool.and_self, eq_self]; done) | omega | (simp only [List.length_cons, List.length_nil]; omega)) only [go_sem, ↓reduceIte, Nat.reduceEqDiff, Nat.reduceAdd, Nat.reduceMul, Nat.reduceSub, Int.reduceToNat, Nat.reduceBEq, List.size_toArray, List.length_cons, List.length_nil, Bool.false_and, Bool.true_and, Bool.or_false, Bool.false_or, Bool.and_false, Bool.and_true, s2], by simp (disch := first | (simp only [go_sem, Bool.and_self, eq_self]; done) | omega | (simp only [List.length_cons, List.length_nil]; omega)) only [go_sem, ↓reduceIte, Nat.reduceEqDiff, Nat.reduceAdd, Nat.reduceMul, Nat.reduceSub, Int.reduceToNat, Nat.reduceBEq, List.size_toArray, List.length_cons, List.length_nil, Bool.false_and, Bool.true_and, Bool.or_false, Bool.false_or, Bool.and_false, Bool.and_true, s3], by simp (disch := first | (simp only [go_sem, Bool.and_self, eq_self]; done) | omega | (simp only [List.length_cons, List.length_nil]; omega)) only [go_sem, ↓reduceIte, Nat.reduceEqDiff, Nat.reduceAdd, Nat.reduceMul, Nat.reduceSub, Int.reduceToNat, Nat.reduceBEq, List.size_toArray, List.length_cons, List.length_nil, Bool.false_and, Bool.true_and, Bool.or_false, Bool.false_or, Bool.and_false, Bool.and_true, s5], by simp (disch := first | (simp only [go_sem, Bool.and_self, eq_self]; done) | omega | (simp only [List.length_cons, List.length_nil]; omega)) only [go_sem, ↓reduceIte, Nat.reduceEqDiff, Nat.reduceAdd, Nat.reduceMul, Nat.reduceSub, Int.reduceToNat, Nat.reduceBEq, List.size_toArray, List.length_cons, List.length_nil, Bool.false_and, Bool.true_and, Bool.or_false, Bool.false_or, Bool.and_false, Bool.and_true, s6], b0, by rw [hst2]; simp (disch := first | (simp only [go_sem, Bool.and_self, eq_self]; done) | omega | (simp only [List.length_cons, List.length_nil]; omega)) only [go_sem, ↓reduceIte, Nat.reduceEqDiff, Nat.reduceAdd, Nat.reduceMul, Nat.reduceSub, Int.reduceToNat, Nat.reduceBEq, List.size_toArray, List.length_cons, List.length_nil, Bool.false_and, Bool.true_and, Bool.or_false, Bool.false_or, Bool.and_false, Bool.and_true]⟩
    · rintro st h ⟨s0, s2, s3, s5, s6, b0, s7⟩
      simp (disch := first | (simp only [go_sem, Bool.and_self, eq_self]; done) | omega | (simp only [List.length_cons, List.length_nil]; omega)) only [go_sem, ↓reduceIte, Nat.reduceEqDiff, Nat.reduceAdd, Nat.reduceMul, Nat.reduceSub, Int.reduceToNat, Nat.reduceBEq, List.size_toArray, List.length_cons, List.length_nil, Bool.false_and, Bool.true_and, Bool.or_false, Bool.false_or, Bool.and_false, Bool.and_true, s0, s2, s3, s5, s6, s7]
      rw [For1K_normal]
      exact ⟨by omega, by simp (disch := first | (simp only [go_sem, Bool.and_self, eq_self]; done) | omega | (simp only [List.length_cons, List.length_nil]; omega)) only [go_sem, ↓reduceIte, Nat.reduceEqDiff, Nat.reduceAdd, Nat.reduceMul, Nat.reduceSub, Int.reduceToNat, Nat.reduceBEq, List.size_toArray, List.length_cons, List.length_nil, Bool.false_and, Bool.true_and, Bool.or_false, Bool.false_or, Bool.and_false, Bool.and_true, s6], by simp (disch := first | (simp only [go_sem, Bool.and_self, eq_self]; done) | omega | (simp only [List.length_cons, List.length_nil]; omega)) only [go_sem, ↓reduceIte, Nat.reduceEqDiff, Nat.reduceAdd, Nat.reduceMul, Nat.reduceSub, Int.reduceToNat, Nat.reduceBEq, List.size_toArray, List.length_cons, List.length_nil, Bool.false_and, Bool.true_and, Bool.or_false, Bool.false_or, Bool.and_false, Bool.and_true, s0], by simp (disch := first | (simp only [go_sem, Bool.and_self, eq_self]; done) | omega | (simp only [List.length_cons, List.length_nil]; omega)) only [go_sem, ↓reduceIte, Nat.reduceEqDiff, Nat.reduceAdd, Nat.reduceMul, Nat.reduceSub, Int.reduceToNat, Nat.reduceBEq, List.size_toArray, List.length_cons, List.length_nil, Bool.false_and, Bool.true_and, Bool.or_false, Bool.false_or, Bool.and_false, Bool.and_true, s2], by simp (disch := first | (simp only [go_sem, Bool.and_self, eq_self]; done) | omega | (simp only [List.length_cons, List.length_nil]; omega)) only [go_sem, ↓reduceIte, Nat.reduceEqDiff, Nat.reduceAdd, Nat.reduceMul, Nat.reduceSub, Int.reduceToNat, Nat.reduceBEq, List.size_toArray, List.length_cons, List.length_nil, Bool.false_and, Bool.true_and, Bool.or_false, Bool.false_or, Bool.and_false, Bool.and_true, s3], b0, by rw [hst]; simp (disch := first | (simp only [go_sem, Bool.and_self, eq_self]; done) | omega | (simp only [List.length_cons, List.length_nil]; omega)) only [go_sem, ↓reduceIte, Nat.reduceEqDiff, Nat.reduceAdd, Nat.reduceMul, Nat.reduceSub, Int.reduceToNat, Nat.reduceBEq, List.size_toArray, List.length_cons, List.length_nil, Bool.false_and, Bool.true_and, Bool.or_false, Bool.false_or, Bool.and_false, Bool.and_true]; congr 1; omega⟩
  · rintro st h ⟨s0, s2, s3, b0, s5⟩
    have hsb := sumN_bounds (f := fun x : Nat => W - belI ((x : Int) + 1) l) (lo := 0) (hi := 16777216) (n := 1000) fun i _ => by
      have := hbel ((i : Int) + 1)
      show 0 ≤ W - _ ∧ W - _ ≤ 16777216
      omega
    generalize sumN (fun x => W - belI ((x : Int) + 1) l) 1000 = s at *
    have kr := fun h h' K => k53 (h := h) (h' := h') (K := K) s W (by simp only [big]; omega) (by simp only [big]; omega) (by omega)
    generalize rdP s W = p at *
    simp (disch := first | (simp only [go_sem, Bool.and_self, eq_self]; done) | omega | (simp only [List.length_cons, List.length_nil]; omega)) only [go_sem, ↓reduceIte, Nat.reduceEqDiff, Nat.reduceAdd, Nat.reduceMul, Nat.reduceSub, Int.reduceToNat, Nat.reduceBEq, List.size_toArray, List.length_cons, List.length_nil, Bool.false_and, Bool.true_and, Bool.or_false, Bool.false_or, Bool.and_false, Bool.and_true, s0, s2, s3, s5, b0, kr]
    rfl

/-! ### From the last offer on -/
theorem drop_pre {l : List (List (Int × Int))} {m : Nat} (h0 : 0 < m) (hm : m ≤ l.length) : l.drop (m - 1) = nth l (m - 1) :: l.drop m := by
  have hlt : m - 1 < l.length := by omega
  rw [nth_getElem hlt, List.drop_eq_getElem_cons hlt]
  congr 2; omega
theorem f43_con (l : List (List (Int × Int))) (hl : Offs l) : Con Try.prog cfg 43 [LLP l] (FR (rdP (wI l) (pw l.length))) := by
  have hn := hl.len
  refine Con_intro Try.func43 rfl ok43 (Nat.le_of_ble_eq_true rfl) rfl ?_
  simp only [Try.f43, Option.getD_some, initSt1]
  simp (disch := first | (simp only [go_sem, Bool.and_self, eq_self]; done) | omega | (simp only [List.length_cons, List.length_nil]; omega)) only [go_sem, ↓reduceIte, Nat.reduceEqDiff, Nat.reduceAdd, Nat.reduceMul, Nat.reduceSub, Int.reduceToNat, Nat.reduceBEq, List.size_toArray, List.length_cons, List.length_nil, Bool.false_and, Bool.true_and, Bool.or_false, Bool.false_or, Bool.and_false, Bool.and_true]
  refine WP_cut (fun st h => st 2 = .ptr 0 0 ∧ h.bl 0 = some (.cells false false [I 0, I 0]) ∧ st 3 = I (wI l) ∧ st 4 = I (pw l.length)) ?_ ?_
  · refine WP_down 5 l.length (fun m st h => st 0 = LLP l ∧ st 2 = .ptr 0 0 ∧ h.bl 0 = some (.cells false false [I 0, I 0]) ∧ st 3 = I (wI (l.drop m)) ∧ st 4 = I (pw (l.length - m))) (by simp (disch := first | (simp only [go_sem, Bool.and_self, eq_self]; done) | omega | (simp only [List.length_cons, List.length_nil]; omega)) only [go_sem, ↓reduceIte, Nat.reduceEqDiff, Nat.reduceAdd, Nat.reduceMul, Nat.reduceSub, Int.reduceToNat, Nat.reduceBEq, List.size_toArray, List.length_cons, List.length_nil, Bool.false_and, Bool.true_and, Bool.or_false, Bool.false_or, Bool.and_false, Bool.and_true]) ⟨by simp (disch := first | (simp only [go_sem, Bool.and_self, eq_self]; done) | omega | (simp only [List.length_cons, List.length_nil]; omega)) only [go_sem, ↓reduceIte, Nat.reduceEqDiff, Nat.reduceAdd, Nat.reduceMul, Nat.reduceSub, Int.reduceToNat, Nat.reduceBEq, List.size_toArray, List.length_cons, List.length_nil, Bool.false_and, Bool.true_and, Bool.or_false, Bool.false_or, Bool.and_false, Bool.and_true], by simp (disch := first | (simp only [go_sem, Bool.and_self, eq_self]; done) | omega | (simp only [List.length_cons, List.length_nil]; omega)) only [go_sem, ↓reduceIte, Nat.reduceEqDiff, Nat.reduceAdd, Nat.reduceMul, Nat.reduceSub, Int.reduceToNat, Nat.reduceBEq, List.size_toArray, List.length_cons, List.length_nil, Bool.false_and, Bool.true_and, Bool.or_false, Bool.false_or, Bool.and_false, Bool.and_true], by simp (disch := first | (simp only [go_sem, Bool.and_self, eq_self]; done) | omega | (simp only [List.length_cons, List.length_nil]; omega)) only [go_sem, ↓reduceIte, Nat.reduceEqDiff, Nat.reduceAdd, Nat.reduceMul, Nat.reduceSub, Int.reduceToNat, Nat.reduceBEq, List.size_toArray, List.length_cons, List.length_nil, Bool.false_and, Bool.true_and, Bool.or_false, Bool.false_or, Bool.and_false, Bool.and_true], by simp (disch := first | (simp only [go_sem, Bool.and_self, eq_self]; done) | omega | (simp only [List.length_cons, List.length_nil]; omega)) only [go_sem, ↓reduceIte, Nat.reduceEqDiff, Nat.reduceAdd, Nat.reduceMul, Nat.reduceSub, Int.reduceToNat, Nat.reduceBEq, List.size_toArray, List.length_cons, List.length_nil, Bool.false_and, Bool.true_and, Bool.or_false, Bool.false_or, Bool.and_false, Bool.and_true, List.drop_length]; rfl, by simp (disch := first | (simp only [go_sem, Bool.and_self, eq_self]; done) | omega | (simp only [List.length_cons, List.length_nil]; omega)) only [go_sem, ↓reduceIte, Nat.reduceEqDiff, Nat.reduceAdd, Nat.reduceMul, Nat.reduceSub, Int.reduceToNat, Nat.reduceBEq, List.size_toArray, List.length_cons, List.length_nil, Bool.false_and, Bool.true_and, Bool.or_false, Bool.false_or, Bool.and_false, Bool.and_true, Nat.sub_self]; rfl⟩ ?_
    rintro m st h hm s5 ⟨s0, s2, b0, s3, s4⟩
    by_cases hm0 : 0 < m
    case neg =>
      have hme : m = 0 := by omega
      subst hme
      have hneg : ¬ (0 : Int) ≤ ((0 : Nat) : Int) - 1 := by decide
      simp (disch := first | (simp only [go_sem, Bool.and_self, eq_self]; done) | omega | (simp only [List.length_cons, List.length_nil]; omega)) only [go_sem, ↓reduceIte, Nat.reduceEqDiff, Nat.reduceAdd, Nat.reduceMul, Nat.reduceSub, Int.reduceToNat, Nat.reduceBEq, List.size_toArray, List.length_cons, List.length_nil, Bool.false_and, Bool.true_and, Bool.or_false, Bool.false_or, Bool.and_false, Bool.and_true, s0, s2, s3, s4, s5, hneg, b0, List.drop_zero, Nat.sub_zero]
    obtain ⟨i, rfl⟩ : ∃ i, m = i + 1 := ⟨m - 1, by omega⟩
    have s5 : st 5 = I i := by rw [s5]; congr 1; omega
    have hil : i < l.length := by omega
    have hii : (0 : Int) ≤ i := by omega
    have hlen : (l.drop (i + 1)).length = l.length - (i + 1) := List.length_drop
    have hok : ∀ o ∈ l.drop (i + 1), OffOK o := fun o ho => hl.ok o (List.mem_of_mem_drop ho)
    have hoo := hl.ok _ (nth_mem hil)
    have hwb := wI_b hok
    have hstep : wI (l.drop i) = sumO (nth l i) fun q => q.2 * max (q.1 * pw (l.length - (i + 1))) (wI (l.drop (i + 1))) := by
      have := drop_pre (l := l) (m := i + 1) (by omega) (by omega)
      rw [Nat.add_sub_cancel] at this
      rw [this, wI, hlen]
    have hpw : pw (l.length - i) = 16 * pw (l.length - (i + 1)) := by rw [← pw_succ]; congr 1; omega
    have hpb := pw_le5 (show l.length - (i + 1) ≤ 5 by omega)
    rw [hlen] at hwb
    generalize wI (l.drop (i + 1)) = s at *
    generalize pw (l.length - (i + 1)) = d at *
    generalize ho : nth l i = o at *
    simp (disch := first | (simp only [go_sem, Bool.and_self, eq_self]; done) | omega | (simp only [List.length_cons, List.length_nil]; omega)) only [go_sem, ↓reduceIte, Nat.reduceEqDiff, Nat.reduceAdd, Nat.reduceMul, Nat.reduceSub, Int.reduceToNat, Nat.reduceBEq, List.size_toArray, List.length_cons, List.length_nil, Bool.false_and, Bool.true_and, Bool.or_false, Bool.false_or, Bool.and_false, Bool.and_true, s0, s2, s3, s4, s5, hii]
    refine WP_cut (fun st h => st 0 = LLP l ∧ st 2 = .ptr 0 0 ∧ st 3 = I s ∧ st 4 = I d ∧ st 5 = I i ∧ h.bl 0 = some (.cells false false [I 0, I 0]) ∧ st 6 = I (wI (l.drop i))) ?_ ?_
    · refine WP_for 7 o.length (fun j st h => st 0 = LLP l ∧ st 2 = .ptr 0 0 ∧ st 3 = I s ∧ st 4 = I d ∧ st 5 = I i ∧ h.bl 0 = some (.cells false false [I 0, I 0]) ∧ st 6 = I (sumN (fun k => (nth o k).2 * max ((nth o k).1 * d) s) j)) (by simp (disch := first | (simp only [go_sem, Bool.and_self, eq_self]; done) | omega | (simp only [List.length_cons, List.length_nil]; omega)) only [go_sem, ↓reduceIte, Nat.reduceEqDiff, Nat.reduceAdd, Nat.reduceMul, Nat.reduceSub, Int.reduceToNat, Nat.reduceBEq, List.size_toArray, List.length_cons, List.length_nil, Bool.false_and, Bool.true_and, Bool.or_false, Bool.false_or, Bool.and_false, Bool.and_true]) ⟨by simp (disch := first | (simp only [go_sem, Bool.and_self, eq_self]; done) | omega | (simp only [List.length_cons, List.length_nil]; omega)) only [go_sem, ↓reduceIte, Nat.reduceEqDiff, Nat.reduceAdd, Nat.reduceMul, Nat.reduceSub, Int.reduceToNat, Nat.reduceBEq, List.size_toArray, List.length_cons, List.length_nil, Bool.false_and, Bool.true_and, Bool.or_false, Bool.false_or, Bool.and_false, Bool.and_true, s0], by simp (disch := first | (simp only [go_sem, Bool.and_self, eq_self]; done) | omega | (simp only [List.length_cons, List.length_nil]; omega)) only [go_sem, ↓reduceIte, Nat.reduceEqDiff, Nat.reduceAdd, Nat.reduceMul, Nat.reduceSub, Int.reduceToNat, Nat.reduceBEq, List.size_toArray, List.length_cons, List.length_nil, Bool.false_and, Bool.true_and, Bool.or_false, Bool.false_or, Bool.and_false, Bool.and_true, s2], by simp (disch := first | (simp only [go_sem, Bool.and_self, eq_self]; done) | omega | (simp only [List.length_cons, List.length_nil]; omega)) only [go_sem, ↓reduceIte, Nat.reduceEqDiff, Nat.reduceAdd, Nat.reduceMul, Nat.reduceSub, Int.reduceToNat, Nat.reduceBEq, List.size_toArray, List.length_cons, List.length_nil, Bool.false_and, Bool.true_and, Bool.or_false, Bool.false_or, Bool.and_false, Bool.and_true, s3], by simp (disch := first | (simp only [go_sem, Bool.and_self, eq_self]; done) | omega | (simp only [List.length_cons, List.length_nil]; omega)) only [go_sem, ↓reduceIte, Nat.reduceEqDiff, Nat.reduceAdd, Nat.reduceMul, Nat.reduceSub, Int.reduceToNat, Nat.reduceBEq, List.size_toArray, List.length_cons, List.length_nil, Bool.false_and, Bool.true_and, Bool.or_false, Bool.false_or, Bool.and_false, Bool.and_true, s4], by simp (disch := first | (simp only [go_sem, Bool.and_self, eq_self]; done) | omega | (simp only [List.length_cons, List.length_nil]; omega)) only [go_sem, ↓reduceIte, Nat.reduceEqDiff, Nat.reduceAdd, Nat.reduceMul, Nat.reduceSub, Int.reduceToNat, Nat.reduceBEq, List.size_toArray, List.length_cons, List.length_nil, Bool.false_and, Bool.true_and, Bool.or_false, Bool.false_or, Bool.and_false, Bool.and_true, s5], b0, by simp (disch := first | (simp only [go_sem, Bool.and_self, eq_self]; done) | omega | (simp only [List.length_cons, List.length_nil]; omega)) only [go_sem, ↓reduceIte, Nat.reduceEqDiff, Nat.reduceAdd, Nat.reduceMul, Nat.reduceSub, Int.reduceToNat, Nat.reduceBEq, List.size_toArray, List.length_cons, List.length_nil, Bool.false_and, Bool.true_and, Bool.or_false, Bool.false_or, Bool.and_false, Bool.and_true]; rfl⟩ ?_
      rintro j st h hj s7 ⟨s0, s2, s3, s4, s5, b0, s6⟩
      by_cases hjl : j < o.length
      case neg =>
        have hje : j = o.length := by omega
        subst hje
        simp (disch := first | (simp only [go_sem, Bool.and_self, eq_self]; done) | omega | (simp only [List.length_cons, List.length_nil]; omega)) only [go_sem, ↓reduceIte, Nat.reduceEqDiff, Nat.reduceAdd, Nat.reduceMul, Nat.reduceSub, Int.reduceToNat, Nat.reduceBEq, List.size_toArray, List.length_cons, List.length_nil, Bool.false_and, Bool.true_and, Bool.or_false, Bool.false_or, Bool.and_false, Bool.and_true, s0, s2, s3, s4, s5, s6, s7, hil, hjl, ho, b0, hstep]
        rfl
      have hol := hoo.len
      have mb : ∀ k, k < o.length → (0 ≤ (nth o k).1 * d ∧ (nth o k).1 * d ≤ 1000 * 1048576) ∧ (0 ≤ (nth o k).2 * max ((nth o k).1 * d) s ∧ (nth o k).2 * max ((nth o k).1 * d) s ≤ 16 * (1000 * 1048576)) := fun k hk => by
        have hx := hoo.x _ (nth_mem hk)
        have h1 : 0 ≤ (nth o k).1 * d ∧ (nth o k).1 * d ≤ 1000 * 1048576 := ⟨Int.mul_nonneg (by omega) (by omega), Int.mul_le_mul (by omega) (by omega) (by omega) (by omega)⟩
        exact ⟨h1, Int.mul_nonneg (by omega) (by omega), Int.mul_le_mul (by omega) (by omega) (by omega) (by omega)⟩
      have hsb := sumN_bounds (f := fun k => (nth o k).2 * max ((nth o k).1 * d) s) (lo := 0) (hi := 16 * (1000 * 1048576)) (n := j) fun k hk => (mb k (by omega)).2
      have hmj := mb j hjl
      have hst3 : sumN (fun k => (nth o k).2 * max ((nth o k).1 * d) s) (j + 1) = sumN (fun k => (nth o k).2 * max ((nth o k).1 * d) s) j + (nth o j).2 * max ((nth o j).1 * d) s := rfl
      generalize sumN (fun k => (nth o k).2 * max ((nth o k).1 * d) s) j = z at *
      simp (disch := first | (simp only [go_sem, Bool.and_self, eq_self]; done) | omega | (simp only [List.length_cons, List.length_nil]; omega)) only [go_sem, ↓reduceIte, Nat.reduceEqDiff, Nat.reduceAdd, Nat.reduceMul, Nat.reduceSub, Int.reduceToNat, Nat.reduceBEq, List.size_toArray, List.length_cons, List.length_nil, Bool.false_and, Bool.true_and, Bool.or_false, Bool.false_or, Bool.and_false, Bool.and_true, s0, s2, s3, s4, s5, s6, s7, hil, hjl, ho, List.drop_succ_cons]
      rw [ForK_normal]
      exact ⟨hjl, by simp (disch := first | (simp only [go_sem, Bool.and_self, eq_self]; done) | omega | (simp only [List.length_cons, List.length_nil]; omega)) only [go_sem, ↓reduceIte, Nat.reduceEqDiff, Nat.reduceAdd, Nat.reduceMul, Nat.reduceSub, Int.reduceToNat, Nat.reduceBEq, List.size_toArray, List.length_cons, List.length_nil, Bool.false_and, Bool.true_and, Bool.or_false, Bool.false_or, Bool.and_false, Bool.and_true, s7], by simp (disch := first | (simp only [go_sem, Bool.and_self, eq_self]; done) | omega | (simp only [List.length_cons, List.length_nil]; omega)) only [go_sem, ↓reduceIte, Nat.reduceEqDiff, Nat.reduceAdd, Nat.reduceMul, Nat.reduceSub, Int.reduceToNat, Nat.reduceBEq, List.size_toArray, List.length_cons, List.length_nil, Bool.false_and, Bool.true_and, Bool.or_false, Bool.false_or, Bool.and_false, Bool.and_true, s0], by simp (disch := first | (simp only [go_sem, Bool.and_self, eq_self]; done) | omega | (simp only [List.length_cons, List.length_nil]; omega)) only [go_sem, ↓reduceIte, Nat.reduceEqDiff, Nat.reduceAdd, Nat.reduceMul, Nat.reduceSub, Int.reduceToNat, Nat.reduceBEq, List.size_toArray, List.length_cons, List.length_nil, Bool.false_and, Bool.true_and, Bool.or_false, Bool.false_or, Bool.and_false, Bool.and_true, s2], by simp (disch := first | (simp only [go_sem, Bool.and_self, eq_self]; done) | omega | (simp only [List.length_cons, List.length_nil]; omega)) only [go_sem, ↓reduceIte, Nat.reduceEqDiff, Nat.reduceAdd, Nat.reduceMul, Nat.reduceSub, Int.reduceToNat, Nat.reduceBEq, List.size_toArray, List.length_cons, List.length_nil, Bool.false_and, Bool.true_and, Bool.or_false, Bool.false_or, Bool.and_false, Bool.and_true, s3], by simp (disch := first | (simp only [go_sem, Bool.and_self, eq_self]; done) | omega | (simp only [List.length_cons, List.length_nil]; omega)) only [go_sem, ↓reduceIte, Nat.reduceEqDiff, Nat.reduceAdd, Nat.reduceMul, Nat.reduceSub, Int.reduceToNat, Nat.reduceBEq, List.size_toArray, List.length_cons, List.length_nil, Bool.false_and, Bool.true_and, Bool.or_false, Bool.false_or, Bool.and_false, Bool.and_true, s4], by simp (disch := first | (simp only [go_sem, Bool.and_self, eq_self]; done) | omega | (simp only [List.length_cons, List.length_nil]; omega)) only [go_sem, ↓reduceIte, Nat.reduceEqDiff, Nat.reduceAdd, Nat.reduceMul, Nat.reduceSub, Int.reduceToNat, Nat.reduceBEq, List.size_toArray, List.length_cons, List.length_nil, Bool.false_and, Bool.true_and, Bool.or_false, Bool.false_or, Bool.and_false, Bool.and_true, s5], b0, by rw [hst3]; simp (disch := first | (simp only [go_sem, Bool.and_self, eq_self]; done) | omega | (simp only [List.length_cons, List.length_nil]; omega)) only [go_sem, ↓reduceIte, Nat.reduceEqDiff, Nat.reduceAdd, Nat.reduceMul, Nat.reduceSub, Int.reduceToNat, Nat.reduceBEq, List.size_toArray, List.length_cons, List.length_nil, Bool.false_and, Bool.true_and, Bool.or_false, Bool.false_or, Bool.and_false, Bool.and_true]⟩
    · rintro st h ⟨s0, s2, s3, s4, s5, b0, s6⟩
      simp (disch := first | (simp only [go_sem, Bool.and_self, eq_self]; done) | omega | (simp only [List.length_cons, List.length_nil]; omega)) only [go_sem, ↓reduceIte, Nat.reduceEqDiff, Nat.reduceAdd, Nat.reduceMul, Nat.reduceSub, Int.reduceToNat, Nat.reduceBEq, List.size_toArray, List.length_cons, List.length_nil, Bool.false_and, Bool.true_and, Bool.or_false, Bool.false_or, Bool.and_false, Bool.and_true, s0, s2, s3, s4, s5, s6]
      rw [DownK_normal]
      exact ⟨by omega, by (simp (disch := first | (simp only [go_sem, Bool.and_self, eq_self]; done) | omega | (simp only [List.length_cons, List.length_nil]; omega)) only [go_sem, ↓reduceIte, Nat.reduceEqDiff, Nat.reduceAdd, Nat.reduceMul, Nat.reduceSub, Int.reduceToNat, Nat.reduceBEq, List.size_toArray, List.length_cons, List.length_nil, Bool.false_and, Bool.true_and, Bool.or_false, Bool.false_or, Bool.and_false, Bool.and_true, s5]; congr 1; omega), by simp (disch := first | (simp only [go_sem, Bool.and_self, eq_self]; done) | omega | (simp only [List.length_cons, List.length_nil]; omega)) only [go_sem, ↓reduceIte, Nat.reduceEqDiff, Nat.reduceAdd, Nat.reduceMul, Nat.reduceSub, Int.reduceToNat, Nat.reduceBEq, List.size_toArray, List.length_cons, List.length_nil, Bool.false_and, Bool.true_and, Bool.or_false, Bool.false_or, Bool.and_false, Bool.and_true, s0], by simp (disch := first | (simp only [go_sem, Bool.and_self, eq_self]; done) | omega | (simp only [List.length_cons, List.length_nil]; omega)) only [go_sem, ↓reduceIte, Nat.reduceEqDiff, Nat.reduceAdd, Nat.reduceMul, Nat.reduceSub, Int.reduceToNat, Nat.reduceBEq, List.size_toArray, List.length_cons, List.length_nil, Bool.false_and, Bool.true_and, Bool.or_false, Bool.false_or, Bool.and_false, Bool.and_true, s2], b0, by simp (disch := first | (simp only [go_sem, Bool.and_self, eq_self]; done) | omega | (simp only [List.length_cons, List.length_nil]; omega)) only [go_sem, ↓reduceIte, Nat.reduceEqDiff, Nat.reduceAdd, Nat.reduceMul, Nat.reduceSub, Int.reduceToNat, Nat.reduceBEq, List.size_toArray, List.length_cons, List.length_nil, Bool.false_and, Bool.true_and, Bool.or_false, Bool.false_or, Bool.and_false, Bool.and_true]; rfl, by simp (disch := first | (simp only [go_sem, Bool.and_self, eq_self]; done) | omega | (simp only [List.length_cons, List.length_nil]; omega)) only [go_sem, ↓reduceIte, Nat.reduceEqDiff, Nat.reduceAdd, Nat.reduceMul, Nat.reduceSub, Int.reduceToNat, Nat.reduceBEq, List.size_toArray, List.length_cons, List.length_nil, Bool.false_and, Bool.true_and, Bool.or_false, Bool.false_or, Bool.and_false, Bool.and_true]; rw [Nat.add_sub_cancel, hpw]⟩
  · rintro st h ⟨s2, b0, s3, s4⟩
    have hwb := wI_b hl.ok
    have hpb := pw_le hn
    generalize wI l = s at *
    generalize pw l.length = d at *
    have kr := fun h h' K => k53 (h := h) (h' := h') (K := K) s d (by simp only [big]; omega) (by simp only [big]; omega) (by omega)
    generalize rdP s d = p at *
    simp (disch := first | (simp only [go_sem, Bool.and_self, eq_self]; done) | omega | (simp only [List.length_cons, List.length_nil]; omega)) only [go_sem, ↓reduceIte, Nat.reduceEqDiff, Nat.reduceAdd, Nat.reduceMul, Nat.reduceSub, Int.reduceToNat, Nat.reduceBEq, List.size_toArray, List.length_cons, List.length_nil, Bool.false_and, Bool.true_and, Bool.or_false, Bool.false_or, Bool.and_false, Bool.and_true, s2, s3, s4, b0, kr]
    rfl
theorem f44_con (l : List (List (Int × Int))) (hl : Offs l) (t : Int) : Con Try.prog cfg 44 [LLP l, I t] (FR (rdP (tI t l) (pw l.length))) := by
  have hn := hl.len
  refine Con_intro Try.func44 rfl ok44 (Nat.le_of_ble_eq_true rfl) rfl ?_
  simp only [Try.f44, Option.getD_some, initSt2]
  simp (disch := first | (simp only [go_sem, Bool.and_self, eq_self]; done) | omega | (simp only [List.length_cons, List.length_nil]; omega)) only [go_sem, ↓reduceIte, Nat.reduceEqDiff, Nat.reduceAdd, Nat.reduceMul, Nat.reduceSub, Int.reduceToNat, Nat.reduceBEq, List.size_toArray, List.length_cons, List.length_nil, Bool.false_and, Bool.true_and, Bool.or_false, Bool.false_or, Bool.and_false, Bool.and_true]
  refine WP_cut (fun st h => st 4 = .ptr 0 0 ∧ h.bl 0 = some (.cells false false [I 0, I 0]) ∧ st 5 = I (tI t l) ∧ st 6 = I (pw l.length)) ?_ ?_
  · refine WP_down 7 l.length (fun m st h => st 0 = LLP l ∧ st 1 = I t ∧ st 4 = .ptr 0 0 ∧ h.bl 0 = some (.cells false false [I 0, I 0]) ∧ st 5 = I (tI t (l.drop m)) ∧ st 6 = I (pw (l.length - m))) (by simp (disch := first | (simp only [go_sem, Bool.and_self, eq_self]; done) | omega | (simp only [List.length_cons, List.length_nil]; omega)) only [go_sem, ↓reduceIte, Nat.reduceEqDiff, Nat.reduceAdd, Nat.reduceMul, Nat.reduceSub, Int.reduceToNat, Nat.reduceBEq, List.size_toArray, List.length_cons, List.length_nil, Bool.false_and, Bool.true_and, Bool.or_false, Bool.false_or, Bool.and_false, Bool.and_true]) ⟨by simp (disch := first | (simp only [go_sem, Bool.and_self, eq_self]; done) | omega | (simp only [List.length_cons, List.length_nil]; omega)) only [go_sem, ↓reduceIte, Nat.reduceEqDiff, Nat.reduceAdd, Nat.reduceMul, Nat.reduceSub, Int.reduceToNat, Nat.reduceBEq, List.size_toArray, List.length_cons, List.length_nil, Bool.false_and, Bool.true_and, Bool.or_false, Bool.false_or, Bool.and_false, Bool.and_true], by simp (disch := first | (simp only [go_sem, Bool.and_self, eq_self]; done) | omega | (simp only [List.length_cons, List.length_nil]; omega)) only [go_sem, ↓reduceIte, Nat.reduceEqDiff, Nat.reduceAdd, Nat.reduceMul, Nat.reduceSub, Int.reduceToNat, Nat.reduceBEq, List.size_toArray, List.length_cons, List.length_nil, Bool.false_and, Bool.true_and, Bool.or_false, Bool.false_or, Bool.and_false, Bool.and_true], by simp (disch := first | (simp only [go_sem, Bool.and_self, eq_self]; done) | omega | (simp only [List.length_cons, List.length_nil]; omega)) only [go_sem, ↓reduceIte, Nat.reduceEqDiff, Nat.reduceAdd, Nat.reduceMul, Nat.reduceSub, Int.reduceToNat, Nat.reduceBEq, List.size_toArray, List.length_cons, List.length_nil, Bool.false_and, Bool.true_and, Bool.or_false, Bool.false_or, Bool.and_false, Bool.and_true], by simp (disch := first | (simp only [go_sem, Bool.and_self, eq_self]; done) | omega | (simp only [List.length_cons, List.length_nil]; omega)) only [go_sem, ↓reduceIte, Nat.reduceEqDiff, Nat.reduceAdd, Nat.reduceMul, Nat.reduceSub, Int.reduceToNat, Nat.reduceBEq, List.size_toArray, List.length_cons, List.length_nil, Bool.false_and, Bool.true_and, Bool.or_false, Bool.false_or, Bool.and_false, Bool.and_true], by simp (disch := first | (simp only [go_sem, Bool.and_self, eq_self]; done) | omega | (simp only [List.length_cons, List.length_nil]; omega)) only [go_sem, ↓reduceIte, Nat.reduceEqDiff, Nat.reduceAdd, Nat.reduceMul, Nat.reduceSub, Int.reduceToNat, Nat.reduceBEq, List.size_toArray, List.length_cons, List.length_nil, Bool.false_and, Bool.true_and, Bool.or_false, Bool.false_or, Bool.and_false, Bool.and_true, List.drop_length]; rfl, by simp (disch := first | (simp only [go_sem, Bool.and_self, eq_self]; done) | omega | (simp only [List.length_cons, List.length_nil]; omega)) only [go_sem, ↓reduceIte, Nat.reduceEqDiff, Nat.reduceAdd, Nat.reduceMul, Nat.reduceSub, Int.reduceToNat, Nat.reduceBEq, List.size_toArray, List.length_cons, List.length_nil, Bool.false_and, Bool.true_and, Bool.or_false, Bool.false_or, Bool.and_false, Bool.and_true, Nat.sub_self]; rfl⟩ ?_
    rintro m st h hm s7 ⟨s0, s1, s4, b0, s5, s6⟩
    by_cases hm0 : 0 < m
    case neg =>
      have hme : m = 0 := by omega
      subst hme
      have hneg : ¬ (0 : Int) ≤ ((0 : Nat) : Int) - 1 := by decide
      simp (disch := first | (simp only [go_sem, Bool.and_self, eq_self]; done) | omega | (simp only [List.length_cons, List.length_nil]; omega)) only [go_sem, ↓reduceIte, Nat.reduceEqDiff, Nat.reduceAdd, Nat.reduceMul, Nat.reduceSub, Int.reduceToNat, Nat.reduceBEq, List.size_toArray, List.length_cons, List.length_nil, Bool.false_and, Bool.true_and, Bool.or_false, Bool.false_or, Bool.and_false, Bool.and_true, s0, s1, s4, s5, s6, s7, hneg, b0, List.drop_zero, Nat.sub_zero]
    obtain ⟨i, rfl⟩ : ∃ i, m = i + 1 := ⟨m - 1, by omega⟩
    have s7 : st 7 = I i := by rw [s7]; congr 1; omega
    have hil : i < l.length := by omega
    have hii : (0 : Int) ≤ i := by omega
    have hlen : (l.drop (i + 1)).length = l.length - (i + 1) := List.length_drop
    have hok : ∀ o ∈ l.drop (i + 1), OffOK o := fun o ho => hl.ok o (List.mem_of_mem_drop ho)
    have hoo := hl.ok _ (nth_mem hil)
    have hwb := wI_b hok
    have htb := tI_b hok t
    have hstep : tI t (l.drop i) = sumO (nth l i) fun q => q.2 * (if t ≤ q.1 then q.1 * pw (l.length - (i + 1)) else tI t (l.drop (i + 1))) := by
      have := drop_pre (l := l) (m := i + 1) (by omega) (by omega)
      rw [Nat.add_sub_cancel] at this
      rw [this, tI, hlen]
    have hpw : pw (l.length - i) = 16 * pw (l.length - (i + 1)) := by rw [← pw_succ]; congr 1; omega
    have hpb := pw_le5 (show l.length - (i + 1) ≤ 5 by omega)
    rw [hlen] at hwb
    generalize tI t (l.drop (i + 1)) = s at *
    generalize pw (l.length - (i + 1)) = d at *
    generalize ho : nth l i = o at *
    simp (disch := first | (simp only [go_sem, Bool.and_self, eq_self]; done) | omega | (simp only [List.length_cons, List.length_nil]; omega)) only [go_sem, ↓reduceIte, Nat.reduceEqDiff, Nat.reduceAdd, Nat.reduceMul, Nat.reduceSub, Int.reduceToNat, Nat.reduceBEq, List.size_toArray, List.length_cons, List.length_nil, Bool.false_and, Bool.true_and, Bool.or_false, Bool.false_or, Bool.and_false, Bool.and_true, s0, s1, s4, s5, s6, s7, hii]
    refine WP_cut (fun st h => st 0 = LLP l ∧ st 1 = I t ∧ st 4 = .ptr 0 0 ∧ st 5 = I s ∧ st 6 = I d ∧ st 7 = I i ∧ h.bl 0 = some (.cells false false [I 0, I 0]) ∧ st 8 = I (tI t (l.drop i))) ?_ ?_
    · refine WP_for 9 o.length (fun j st h => st 0 = LLP l ∧ st 1 = I t ∧ st 4 = .ptr 0 0 ∧ st 5 = I s ∧ st 6 = I d ∧ st 7 = I i ∧ h.bl 0 = some (.cells false false [I 0, I 0]) ∧ st 8 = I (sumN (fun k => (nth o k).2 * (if t ≤ (nth o k).1 then (nth o k).1 * d else s)) j)) (by simp (disch := first | (simp only [go_sem, Bool.and_self, eq_self]; done) | omega | (simp only [List.length_cons, List.length_nil]; omega)) only [go_sem, ↓reduceIte, Nat.reduceEqDiff, Nat.reduceAdd, Nat.reduceMul, Nat.reduceSub, Int.reduceToNat, Nat.reduceBEq, List.size_toArray, List.length_cons, List.length_nil, Bool.false_and, Bool.true_and, Bool.or_false, Bool.false_or, Bool.and_false, Bool.and_true]) ⟨by simp (disch := first | (simp only [go_sem, Bool.and_self, eq_self]; done) | omega | (simp only [List.length_cons, List.length_nil]; omega)) only [go_sem, ↓reduceIte, Nat.reduceEqDiff, Nat.reduceAdd, Nat.reduceMul, Nat.reduceSub, Int.reduceToNat, Nat.reduceBEq, List.size_toArray, List.length_cons, List.length_nil, Bool.false_and, Bool.true_and, Bool.or_false, Bool.false_or, Bool.and_false, Bool.and_true, s0], by simp (disch := first | (simp only [go_sem, Bool.and_self, eq_self]; done) | omega | (simp only [List.length_cons, List.length_nil]; omega)) only [go_sem, ↓reduceIte, Nat.reduceEqDiff, Nat.reduceAdd, Nat.reduceMul, Nat.reduceSub, Int.reduceToNat, Nat.reduceBEq, List.size_toArray, List.length_cons, List.length_nil, Bool.false_and, Bool.true_and, Bool.or_false, Bool.false_or, Bool.and_false, Bool.and_true, s1], by simp (disch := first | (simp only [go_sem, Bool.and_self, eq_self]; done) | omega | (simp only [List.length_cons, List.length_nil]; omega)) only [go_sem, ↓reduceIte, Nat.reduceEqDiff, Nat.reduceAdd, Nat.reduceMul, Nat.reduceSub, Int.reduceToNat, Nat.reduceBEq, List.size_toArray, List.length_cons, List.length_nil, Bool.false_and, Bool.true_and, Bool.or_false, Bool.false_or, Bool.and_false, Bool.and_true, s4], by simp (disch := first | (simp only [go_sem, Bool.and_self, eq_self]; done) | omega | (simp only [List.length_cons, List.length_nil]; omega)) only [go_sem, ↓reduceIte, Nat.reduceEqDiff, Nat.reduceAdd, Nat.reduceMul, Nat.reduceSub, Int.reduceToNat, Nat.reduceBEq, List.size_toArray, List.length_cons, List.length_nil, Bool.false_and, Bool.true_and, Bool.or_false, Bool.false_or, Bool.and_false, Bool.and_true, s5], by simp (disch := first | (simp only [go_sem, Bool.and_self, eq_self]; done) | omega | (simp only [List.length_cons, List.length_nil]; omega)) only [go_sem, ↓reduceIte, Nat.reduceEqDiff, Nat.reduceAdd, Nat.reduceMul, Nat.reduceSub, Int.reduceToNat, Nat.reduceBEq, List.size_toArray, List.length_cons, List.length_nil, Bool.false_and, Bool.true_and, Bool.or_false, Bool.false_or, Bool.and_false, Bool.and_true, s6], by simp (disch := first | (simp only [go_sem, Bool.and_self, eq_self]; done) | omega | (simp only [List.length_cons, List.length_nil]; omega)) only [go_sem, ↓reduceIte, Nat.reduceEqDiff, Nat.reduceAdd, Nat.reduceMul, Nat.reduceSub, Int.reduceToNat, Nat.reduceBEq, List.size_toArray, List.length_cons, List.length_nil, Bool.false_and, Bool.true_and, Bool.or_false, Bool.false_or, Bool.and_false, Bool.and_true, s7], b0, by simp (disch := first | (simp only [go_sem, Bool.and_self, eq_self]; done) | omega | (simp only [List.length_cons, List.length_nil]; omega)) only [go_sem, ↓reduceIte, Nat.reduceEqDiff, Nat.reduceAdd, Nat.reduceMul, Nat.reduceSub, Int.reduceToNat, Nat.reduceBEq, List.size_toArray, List.length_cons, List.length_nil, Bool.false_and, Bool.true_and, Bool.or_false, Bool.false_or, Bool.and_false, Bool.and_true]; rfl⟩ ?_
      rintro j st h hj s9 ⟨s0, s1, s4, s5, s6, s7, b0, s8⟩
      by_cases hjl : j < o.length
      case neg =>
        have hje : j = o.length := by omega
        subst hje
        simp (disch := first | (simp only [go_sem, Bool.and_self, eq_self]; done) | omega | (simp only [List.length_cons, List.length_nil]; omega)) only [go_sem, ↓reduceIte, Nat.reduceEqDiff, Nat.reduceAdd, Nat.reduceMul, Nat.reduceSub, Int.reduceToNat, Nat.reduceBEq, List.size_toArray, List.length_cons, List.length_nil, Bool.false_and, Bool.true_and, Bool.or_false, Bool.false_or, Bool.and_false, Bool.and_true, s0, s1, s4, s5, s6, s7, s8, s9, hil, hjl, ho, b0, hstep]
        rfl
      have hol := hoo.len
      have mb : ∀ k, k < o.length → (0 ≤ (nth o k).2 * (nth o k).1 ∧ (nth o k).2 * (nth o k).1 ≤ 16 * 1000) ∧ (0 ≤ (nth o k).2 * (if t ≤ (nth o k).1 then (nth o k).1 * d else s) ∧ (nth o k).2 * (if t ≤ (nth o k).1 then (nth o k).1 * d else s) ≤ 16 * (1000 * 1048576)) := fun k hk => by
        have hx := hoo.x _ (nth_mem hk)
        have h1 : 0 ≤ (nth o k).1 * d ∧ (nth o k).1 * d ≤ 1000 * 1048576 := ⟨Int.mul_nonneg (by omega) (by omega), Int.mul_le_mul (by omega) (by omega) (by omega) (by omega)⟩
        have h2 : 0 ≤ (if t ≤ (nth o k).1 then (nth o k).1 * d else s) ∧ (if t ≤ (nth o k).1 then (nth o k).1 * d else s) ≤ 1000 * 1048576 := by split <;> omega
        exact ⟨⟨Int.mul_nonneg (by omega) (by omega), Int.mul_le_mul (by omega) (by omega) (by omega) (by omega)⟩, Int.mul_nonneg (by omega) h2.1, Int.mul_le_mul (by omega) h2.2 h2.1 (by omega)⟩
      have hsb := sumN_bounds (f := fun k => (nth o k).2 * (if t ≤ (nth o k).1 then (nth o k).1 * d else s)) (lo := 0) (hi := 16 * (1000 * 1048576)) (n := j) fun k hk => (mb k (by omega)).2
      have hmj := mb j hjl
      have hst3 : sumN (fun k => (nth o k).2 * (if t ≤ (nth o k).1 then (nth o k).1 * d else s)) (j + 1) = sumN (fun k => (nth o k).2 * (if t ≤ (nth o k).1 then (nth o k).1 * d else s)) j + (nth o j).2 * (if t ≤ (nth o j).1 then (nth o j).1 * d else s) := rfl
      generalize sumN (fun k => (nth o k).2 * (if t ≤ (nth o k).1 then (nth o k).1 * d else s)) j = z at *
      by_cases c : t ≤ (nth o j).1
      · rw [if_pos c] at hst3 hmj
        rw [← Int.mul_assoc] at hst3 hmj
        simp (disch := first | (simp only [go_sem, Bool.and_self, eq_self]; done) | omega | (simp only [List.length_cons, List.length_nil]; omega)) only [go_sem, ↓reduceIte, Nat.reduceEqDiff, Nat.reduceAdd, Nat.reduceMul, Nat.reduceSub, Int.reduceToNat, Nat.reduceBEq, List.size_toArray, List.length_cons, List.length_nil, Bool.false_and, Bool.true_and, Bool.or_false, Bool.false_or, Bool.and_false, Bool.and_true, s0, s1, s4, s5, s6, s7, s8, s9, hil, hjl, ho, c, List.drop_succ_cons]
        rw [ForK_normal]
        exact ⟨hjl, by simp (disch := first | (simp only [go_sem, Bool.and_self, eq_self]; done) | omega | (simp only [List.length_cons, List.length_nil]; omega)) only [go_sem, ↓reduceIte, Nat.reduceEqDiff, Nat.reduceAdd, Nat.reduceMul, Nat.reduceSub, Int.reduceToNat, Nat.reduceBEq, List.size_toArray, List.length_cons, List.length_nil, Bool.false_and, Bool.true_and, Bool.or_false, Bool.false_or, Bool.and_false, Bool.and_true, s9], by simp (disch := first | (simp only [go_sem, Bool.and_self, eq_self]; done) | omega | (simp only [List.length_cons, List.length_nil]; omega)) only [go_sem, ↓reduceIte, Nat.reduceEqDiff, Nat.reduceAdd, Nat.reduceMul, Nat.reduceSub, Int.reduceToNat, Nat.reduceBEq, List.size_toArray, List.length_cons, List.length_nil, Bool.false_and, Bool.true_and, Bool.or_false, Bool.false_or, Bool.and_false, Bool.and_true, s0], by simp (disch := first | (simp only [go_sem, Bool.and_self, eq_self]; done) | omega | (simp only [List.length_cons, List.length_nil]; omega)) only [go_sem, ↓reduceIte, Nat.reduceEqDiff, Nat.reduceAdd, Nat.reduceMul, Nat.reduceSub, Int.reduceToNat, Nat.reduceBEq, List.size_toArray, List.length_cons, List.length_nil, Bool.false_and, Bool.true_and, Bool.or_false, Bool.false_or, Bool.and_false, Bool.and_true, s1], by simp (disch := first | (simp only [go_sem, Bool.and_self, eq_self]; done) | omega | (simp only [List.length_cons, List.length_nil]; omega)) only [go_sem, ↓reduceIte, Nat.reduceEqDiff, Nat.reduceAdd, Nat.reduceMul, Nat.reduceSub, Int.reduceToNat, Nat.reduceBEq, List.size_toArray, List.length_cons, List.length_nil, Bool.false_and, Bool.true_and, Bool.or_false, Bool.false_or, Bool.and_false, Bool.and_true, s4], by simp (disch := first | (simp only [go_sem, Bool.and_self, eq_self]; done) | omega | (simp only [List.length_cons, List.length_nil]; omega)) only [go_sem, ↓reduceIte, Nat.reduceEqDiff, Nat.reduceAdd, Nat.reduceMul, Nat.reduceSub, Int.reduceToNat, Nat.reduceBEq, List.size_toArray, List.length_cons, List.length_nil, Bool.false_and, Bool.true_and, Bool.or_false, Bool.false_or, Bool.and_false, Bool.and_true, s5], by simp (disch := first | (simp only [go_sem, Bool.and_self, eq_self]; done) | omega | (simp only [List.length_cons, List.length_nil]; omega)) only [go_sem, ↓reduceIte, Nat.reduceEqDiff, Nat.reduceAdd, Nat.reduceMul, Nat.reduceSub, Int.reduceToNat, Nat.reduceBEq, List.size_toArray, List.length_cons, List.length_nil, Bool.false_and, Bool.true_and, Bool.or_false, Bool.false_or, Bool.and_false, Bool.and_true, s6], by simp (disch := first | (simp only [go_sem, Bool.and_self, eq_self]; done) | omega | (simp only [List.length_cons, List.length_nil]; omega)) only [go_sem, ↓reduceIte, Nat.reduceEqDiff, Nat.reduceAdd, Nat.reduceMul, Nat.reduceSub, Int.reduceToNat, Nat.reduceBEq, List.size_toArray, List.length_cons, List.length_nil, Bool.false_and, Bool.true_and, Bool.or_false, Bool.false_or, Bool.and_false, Bool.and_true, s7], b0, by rw [hst3]; simp (disch := first | (simp only [go_sem, Bool.and_self, eq_self]; done) | omega | (simp only [List.length_cons, List.length_nil]; omega)) only [go_sem, ↓reduceIte, Nat.reduceEqDiff, Nat.reduceAdd, Nat.reduceMul, Nat.reduceSub, Int.reduceToNat, Nat.reduceBEq, List.size_toArray, List.length_cons, List.length_nil, Bool.false_and, Bool.true_and, Bool.or_false, Bool.false_or, Bool.and_false, Bool.and_true]⟩
      · rw [if_neg c] at hst3 hmj
        simp (disch := first | (simp only [go_sem, Bool.and_self, eq_self]; done) | omega | (simp only [List.length_cons, List.length_nil]; omega)) only [go_sem, ↓reduceIte, Nat.reduceEqDiff, Nat.reduceAdd, Nat.reduceMul, Nat.reduceSub, Int.reduceToNat, Nat.reduceBEq, List.size_toArray, List.length_cons, List.length_nil, Bool.false_and, Bool.true_and, Bool.or_false, Bool.false_or, Bool.and_false, Bool.and_true, s0, s1, s4, s5, s6, s7, s8, s9, hil, hjl, ho, c, List.drop_succ_cons]
        rw [ForK_normal]
        exact ⟨hjl, by simp (disch := first | (simp only [go_sem, Bool.and_self, eq_self]; done) | omega | (simp only [List.length_cons, List.length_nil]; omega)) only [go_sem, ↓reduceIte, Nat.reduceEqDiff, Nat.reduceAdd, Nat.reduceMul, Nat.reduceSub, Int.reduceToNat, Nat.reduceBEq, List.size_toArray, List.length_cons, List.length_nil, Bool.false_and, Bool.true_and, Bool.or_false, Bool.false_or, Bool.and_false, Bool.and_true, s9], by simp (disch := first | (simp only [go_sem, Bool.and_self, eq_self]; done) | omega | (simp only [List.length_cons, List.length_nil]; omega)) only [go_sem, ↓reduceIte, Nat.reduceEqDiff, Nat.reduceAdd, Nat.reduceMul, Nat.reduceSub, Int.reduceToNat, Nat.reduceBEq, List.size_toArray, List.length_cons, List.length_nil, Bool.false_and, Bool.true_and, Bool.or_false, Bool.false_or, Bool.and_false, Bool.and_true, s0], by simp (disch := first | (simp only [go_sem, Bool.and_self, eq_self]; done) | omega | (simp only [List.length_cons, List.length_nil]; omega)) only [go_sem, ↓reduceIte, Nat.reduceEqDiff, Nat.reduceAdd, Nat.reduceMul, Nat.reduceSub, Int.reduceToNat, Nat.reduceBEq, List.size_toArray, List.length_cons, List.length_nil, Bool.false_and, Bool.true_and, Bool.or_false, Bool.false_or, Bool.and_false, Bool.and_true, s1], by simp (disch := first | (simp only [go_sem, Bool.and_self, eq_self]; done) | omega | (simp only [List.length_cons, List.length_nil]; omega)) only [go_sem, ↓reduceIte, Nat.reduceEqDiff, Nat.reduceAdd, Nat.reduceMul, Nat.reduceSub, Int.reduceToNat, Nat.reduceBEq, List.size_toArray, List.length_cons, List.length_nil, Bool.false_and, Bool.true_and, Bool.or_false, Bool.false_or, Bool.and_false, Bool.and_true, s4], by simp (disch := first | (simp only [go_sem, Bool.and_self, eq_self]; done) | omega | (simp only [List.length_cons, List.length_nil]; omega)) only [go_sem, ↓reduceIte, Nat.reduceEqDiff, Nat.reduceAdd, Nat.reduceMul, Nat.reduceSub, Int.reduceToNat, Nat.reduceBEq, List.size_toArray, List.length_cons, List.length_nil, Bool.false_and, Bool.true_and, Bool.or_false, Bool.false_or, Bool.and_false, Bool.and_true, s5], by simp (disch := first | (simp only [go_sem, Bool.and_self, eq_self]; done) | omega | (simp only [List.length_cons, List.length_nil]; omega)) only [go_sem, ↓reduceIte, Nat.reduceEqDiff, Nat.reduceAdd, Nat.reduceMul, Nat.reduceSub, Int.reduceToNat, Nat.reduceBEq, List.size_toArray, List.length_cons, List.length_nil, Bool.false_and, Bool.true_and, Bool.or_false, Bool.false_or, Bool.and_false, Bool.and_true, s6], by simp (disch := first | (simp only [go_sem, Bool.and_self, eq_self]; done) | omega | (simp only [List.length_cons, List.length_nil]; omega)) only [go_sem, ↓reduceIte, Nat.reduceEqDiff, Nat.reduceAdd, Nat.reduceMul, Nat.reduceSub, Int.reduceToNat, Nat.reduceBEq, List.size_toArray, List.length_cons, List.length_nil, Bool.false_and, Bool.true_and, Bool.or_false, Bool.false_or, Bool.and_false, Bool.and_true, s7], b0, by rw [hst3]; simp (disch := first | (simp only [go_sem, Bool.and_self, eq_self]; done) | omega | (simp only [List.length_cons, List.length_nil]; omega)) only [go_sem, ↓reduceIte, Nat.reduceEqDiff, Nat.reduceAdd, Nat.reduceMul, Nat.reduceSub, Int.reduceToNat, Nat.reduceBEq, List.size_toArray, List.length_cons, List.length_nil, Bool.false_and, Bool.true_and, Bool.or_false, Bool.false_or, Bool.and_false, Bool.and_true]⟩
    · rintro st h ⟨s0, s1, s4, s5, s6, s7, b0, s8⟩
      simp (disch := first | (simp only [go_sem, Bool.and_self, eq_self]; done) | omega | (simp only [List.length_cons, List.length_nil]; omega)) only [go_sem, ↓reduceIte, Nat.reduceEqDiff, Nat.reduceAdd, Nat.reduceMul, Nat.reduceSub, Int.reduceToNat, Nat.reduceBEq, List.size_toArray, List.length_cons, List.length_nil, Bool.false_and, Bool.true_and, Bool.or_false, Bool.false_or, Bool.and_false, Bool.and_true, s0, s1, s4, s5, s6, s7, s8]
      rw [DownK_normal]
      exact ⟨by omega, by (simp (disch := first | (simp only [go_sem, Bool.and_self, eq_self]; done) | omega | (simp only [List.length_cons, List.length_nil]; omega)) only [go_sem, ↓reduceIte, Nat.reduceEqDiff, Nat.reduceAdd, Nat.reduceMul, Nat.reduceSub, Int.reduceToNat, Nat.reduceBEq, List.size_toArray, List.length_cons, List.length_nil, Bool.false_and, Bool.true_and, Bool.or_false, Bool.false_or, Bool.and_false, Bool.and_true, s7]; congr 1; omega), by simp (disch := first | (simp only [go_sem, Bool.and_self, eq_self]; done) | omega | (simp only [List.length_cons, List.length_nil]; omega)) only [go_sem, ↓reduceIte, Nat.reduceEqDiff, Nat.reduceAdd, Nat.reduceMul, Nat.reduceSub, Int.reduceToNat, Nat.reduceBEq, List.size_toArray, List.length_cons, List.length_nil, Bool.false_and, Bool.true_and, Bool.or_false, Bool.false_or, Bool.and_false, Bool.and_true, s0], by simp (disch := first | (simp only [go_sem, Bool.and_self, eq_self]; done) | omega | (simp only [List.length_cons, List.length_nil]; omega)) only [go_sem, ↓reduceIte, Nat.reduceEqDiff, Nat.reduceAdd, Nat.reduceMul, Nat.reduceSub, Int.reduceToNat, Nat.reduceBEq, List.size_toArray, List.length_cons, List.length_nil, Bool.false_and, Bool.true_and, Bool.or_false, Bool.false_or, Bool.and_false, Bool.and_true, s1], by simp (disch := first | (simp only [go_sem, Bool.and_self, eq_self]; done) | omega | (simp only [List.length_cons, List.length_nil]; omega)) only [go_sem, ↓reduceIte, Nat.reduceEqDiff, Nat.reduceAdd, Nat.reduceMul, Nat.reduceSub, Int.reduceToNat, Nat.reduceBEq, List.size_toArray, List.length_cons, List.length_nil, Bool.false_and, Bool.true_and, Bool.or_false, Bool.false_or, Bool.and_false, Bool.and_true, s4], b0, by simp (disch := first | (simp only [go_sem, Bool.and_self, eq_self]; done) | omega | (simp only [List.length_cons, List.length_nil]; omega)) only [go_sem, ↓reduceIte, Nat.reduceEqDiff, Nat.reduceAdd, Nat.reduceMul, Nat.reduceSub, Int.reduceToNat, Nat.reduceBEq, List.size_toArray, List.length_cons, List.length_nil, Bool.false_and, Bool.true_and, Bool.or_false, Bool.false_or, Bool.and_false, Bool.and_true]; rfl, by simp (disch := first | (simp only [go_sem, Bool.and_self, eq_self]; done) | omega | (simp only [List.length_cons, List.length_nil]; omega)) only [go_sem, ↓reduceIte, Nat.reduceEqDiff, Nat.reduceAdd, Nat.reduceMul, Nat.reduceSub, Int.reduceToNat, Nat.reduceBEq, List.size_toArray, List.length_cons, List.length_nil, Bool.false_and, Bool.true_and, Bool.or_false, Bool.false_or, Bool.and_false, Bool.and_true]; rw [Nat.add_sub_cancel, hpw]⟩
  · rintro st h ⟨s4, b0, s5, s6⟩
    have hwb := wI_b hl.ok
    have htb := tI_b hl.ok t
    have hpb := pw_le hn
    generalize tI t l = s at *
    generalize pw l.length = d at *
    have kr := fun h h' K => k53 (h := h) (h' := h') (K := K) s d (by simp only [big]; omega) (by simp only [big]; omega) (by omega)
    generalize rdP s d = p at *
    simp (disch := first | (simp only [go_sem, Bool.and_self, eq_self]; done) | omega | (simp only [List.length_cons, List.length_nil]; omega)) only [go_sem, ↓reduceIte, Nat.reduceEqDiff, Nat.reduceAdd, Nat.reduceMul, Nat.reduceSub, Int.reduceToNat, Nat.reduceBEq, List.size_toArray, List.length_cons, List.length_nil, Bool.false_and, Bool.true_and, Bool.or_false, Bool.false_or, Bool.and_false, Bool.and_true, s4, s5, s6, b0, kr]
    rfl
def modB (p : Int × Int) : Bool := decide (1 ≤ p.2) && (decide (p.2 ≤ 16777216) && (decide (0 ≤ p.1) && decide (p.1 ≤ 17179869184)))
theorem f45_con {p : Int × Int} (h : modB p = true) : Con Try.prog cfg 45 [FR p] (.bool true) := by
  simp only [modB, Bool.and_eq_true, decide_eq_true_eq] at h
  obtain ⟨h1, h2, h3, h4⟩ := h
  have hal : ∀ (g : Hp) (x y : Int), allocB g (some (.agg [I x, I y])) = some (.ptr g.nx 0, g.alloc (.cells false false [I x, I y])) := fun g x y => allocB_agg _ rfl
  refine Con_intro Try.func45 rfl ok45 (Nat.le_of_ble_eq_true rfl) rfl ?_
  simp only [Try.f45, Option.getD_some, initSt1]
  simp (disch := first | (simp only [go_sem, Bool.and_self, eq_self]; done) | omega | (simp only [List.length_cons, List.length_nil]; omega)) only [go_sem, ↓reduceIte, Nat.reduceEqDiff, Nat.reduceAdd, Nat.reduceMul, Nat.reduceSub, Int.reduceToNat, Nat.reduceBEq, List.size_toArray, List.length_cons, List.length_nil, Bool.false_and, Bool.true_and, Bool.or_false, Bool.false_or, Bool.and_false, Bool.and_true, hal, h1, h2, h3, h4]
end Go.Proofs.Ytgamcclfdkpcgaa

set_option linter.unusedVariables false
set_option linter.unusedSimpArgs false
set_option maxRecDepth 10000
namespace Go.Proofs.Ytgamcclfdkpcgaa
open Go Go.Am

variable {h h' : Hp} {K : AV → Hp → Prop}

def baseL : List Nat := [18, 20, 22, 23, 24, 25, 26, 27, 38, 39, 40, 41, 42, 43, 44, 45]
open Classical in
noncomputable def extY (f : FuncId) (args : List AV) : Option AV :=
  if f = 21 then (if args = [] then some (.bool true) else none)
  else if baseL.contains f = true then (if h : ∃ r, Con Try.prog cfg f args r then some h.choose else none) else none
noncomputable def cfgY : Cfg := { cfg with ext := extY }
theorem hextY : ExtOk Try.prog cfgY := by
  intro f args r he
  have he : extY f args = some r := he
  unfold extY at he
  split at he
  · rename_i h21
    split at he
    · rename_i hn
      cases he
      subst h21; subst hn
      exact ⟨f21_pure, fun _ => rfl⟩
    · cases he
  split at he
  · rename_i hbase
    split at he
    · rename_i h
      cases he
      obtain ⟨k, hk⟩ := h.choose_spec
      exact ⟨(sound hext0 k).2.2.1 _ _ _ hk, fun ho => callP_pure (P := Try.prog) (cfg := cfg) (fun _ _ _ h => by cases h) rfl hk⟩
    · cases he
  · cases he
theorem liftY {f : FuncId} {args : List AV} {r : AV} (hb : (decide (f = 21) || !baseL.contains f) = false) (hc : Con Try.prog cfg f args r) : Con Try.prog cfgY f args r := by
  simp only [Bool.or_eq_false_iff, decide_eq_false_iff_not, Bool.not_eq_false'] at hb
  refine ⟨1, ?_⟩
  have : extY f args = some r := by
    unfold extY
    have hex : ∃ r, Con Try.prog cfg f args r := ⟨r, hc⟩
    rw [if_neg hb.1, if_pos hb.2, dif_pos hex]
    obtain ⟨k, hk⟩ := hex.choose_spec
    obtain ⟨k', hk'⟩ := hc
    rw [callP_det hk hk']
  show (match extY f args with | some r => some r | none => _) = _
  rw [this]
theorem awakeY : Con Try.prog cfgY 21 [] (.bool true) := by
  refine ⟨1, ?_⟩
  have : cfgY.ext 21 [] = some (.bool true) := by
    show extY 21 [] = _
    unfold extY
    rw [if_pos rfl, if_pos rfl]
  simp only [callP, this]
@[go_sem] theorem kY21 : ConW Try.prog cfgY 21 h (some ([], h')) K = K (.bool true) h := ConW_num awakeY rfl
@[go_sem] theorem cfgY_strict (a b : Nat) : cfgY.strict a b = cfg.strict a b := rfl
@[go_sem] theorem cfgY_shared (f : Nat) : cfgY.shared f = cfg.shared f := rfl
@[go_sem] theorem cfgY_own (f : Nat) : cfgY.own f = cfg.own f := rfl
@[go_sem] theorem cfgY_kn (f : Nat) : cfgY.keepNil f = cfg.keepNil f := rfl
theorem okY5 : funcOk cfgY Try.f5 (Try.f5.body.getD .skip) = true := by kernel_rfl
theorem okY6 : funcOk cfgY Try.f6 (Try.f6.body.getD .skip) = true := by kernel_rfl
theorem okY7 : funcOk cfgY Try.f7 (Try.f7.body.getD .skip) = true := by kernel_rfl
theorem okY11 : funcOk cfgY Try.f11 (Try.f11.body.getD .skip) = true := by kernel_rfl
theorem okY12 : funcOk cfgY Try.f12 (Try.f12.body.getD .skip) = true := by kernel_rfl
end Go.Proofs.Ytgamcclfdkpcgaa

set_option linter.unusedVariables false
set_option linter.unusedSimpArgs false
set_option maxRecDepth 10000
namespace Go.Proofs.Ytgamcclfdkpcgaa
open Go Go.Am

variable {h h' : Hp} {K : AV → Hp → Prop}

theorem modB_rd {x : Int} {k : Nat} (hk : k ≤ 6) (h0 : 0 ≤ x) (h1 : x ≤ 1000 * pw k) : modB (rdP x (pw k)) = true := by
  have hp := pw_le hk
  have v2 := rdP_den (a := x) (pw_pos k)
  have v3 := rdP_num h0 (pw_pos k)
  simp only [modB, Bool.and_eq_true, decide_eq_true_eq]
  omega
theorem less_rd {x y D : Int} (hD : 0 < D) (h : y ≤ x) : lessP (rdP x D) (rdP y D) = false := by
  have := lessP_rd (a := x) (c := y) hD hD
  rw [lessP, decide_eq_false_iff_not]
  intro h2
  have h3 := this.1 h2
  have := Int.lt_of_mul_lt_mul_right h3 (Int.le_of_lt hD)
  omega
/-- Twice the second is at least the first. -/
theorem twice_rd {x y D : Int} (hD : 0 < D) (h : x ≤ 2 * y) : (rdP x D).1 * (rdP y D).2 ≤ 2 * (rdP y D).1 * (rdP x D).2 := by
  have u1 := rdP_val (a := x) hD
  have u2 := rdP_den (a := x) hD
  have w1 := rdP_val (a := y) hD
  have w2 := rdP_den (a := y) hD
  generalize rdP x D = u at *
  generalize rdP y D = w at *
  have hm : 0 < u.2 * w.2 := Int.mul_pos u2.1 w2.1
  have h1 := Int.mul_le_mul_of_nonneg_right h (Int.le_of_lt hm)
  have e1 : (u.1 * w.2) * D = x * (u.2 * w.2) := by grind
  have e2 : (2 * w.1 * u.2) * D = 2 * y * (u.2 * w.2) := by grind
  rw [← e1, ← e2] at h1
  exact Int.le_of_mul_le_mul_right h1 hD
/-- Half of a fraction, rounded up. -/
theorem half_up {G D : Int} (hD : 0 < D) (hG : 0 ≤ G) (x : Int) : ((rdP G D).1 + 2 * (rdP G D).2 - 1).tdiv (2 * (rdP G D).2) ≤ x ↔ G ≤ 2 * D * x := by
  have u1 := rdP_val (a := G) hD
  have u2 := rdP_den (a := G) hD
  have u3 := rdP_num hG hD
  generalize rdP G D = u at *
  rw [Int.tdiv_eq_ediv_of_nonneg (by omega)]
  have e : (u.1 + 2 * u.2 - 1) / (2 * u.2) ≤ x ↔ u.1 ≤ 2 * u.2 * x := by
    constructor
    · intro h
      have h1 := Int.lt_mul_ediv_self_add (x := u.1 + 2 * u.2 - 1) (k := 2 * u.2) (by omega)
      have h2 := Int.mul_le_mul_of_nonneg_left h (show 0 ≤ 2 * u.2 by omega)
      omega
    · intro h
      have : u.1 + 2 * u.2 - 1 < 2 * u.2 * (x + 1) := by rw [Int.mul_add, Int.mul_one]; omega
      have := Int.ediv_lt_of_lt_mul (show 0 < 2 * u.2 by omega) (a := u.1 + 2 * u.2 - 1) (b := x + 1) (by first | exact this | (rw [Int.mul_comm (x + 1)]; exact this))
      omega
  rw [e]
  constructor
  · intro h
    have h1 := Int.mul_le_mul_of_nonneg_right h (Int.le_of_lt hD)
    have e2 : 2 * u.2 * x * D = (2 * D * x) * u.2 := by grind
    rw [u1, e2] at h1
    exact Int.le_of_mul_le_mul_right h1 u2.1
  · intro h
    have h1 := Int.mul_le_mul_of_nonneg_right h (Int.le_of_lt u2.1)
    have e2 : 2 * D * x * u.2 = (2 * u.2 * x) * D := by grind
    rw [← u1, e2] at h1
    exact Int.le_of_mul_le_mul_right h1 hD

theorem f12_con (l : List (List (Int × Int))) (hl : okO l) (t : Int) : Con Try.prog cfgY 12 [LLP l, I t] (.bool true) := by
  have hal : ∀ (g : Hp) (x y : Int), allocB g (some (.agg [I x, I y])) = some (.ptr g.nx 0, g.alloc (.cells false false [I x, I y])) := fun g x y => allocB_agg _ rfl
  have k38 := fun h h' K => ConW_any (h := h) (h' := h') (K := K) (liftY (by decide) (f38_con l hl)) rfl
  have hs := offM_small l
  generalize offM l = m at *
  have hi : ∀ h : Hp, importR h (LLP m) = (LLP m, h) := fun _ => rfl
  have k39 := fun h h' K => ConW_num (h := h) (h' := h') (K := K) (liftY (by decide) (f39_con m hs)) (by unfold proR; split <;> rfl)
  have k40 := fun t h h' K => ConW_num (h := h) (h' := h') (K := K) (liftY (by decide) (f40_con m hs t)) (by unfold thrR; split <;> rfl)
  have k41 := fun h h' K => ConW_num (h := h) (h' := h') (K := K) (liftY (by decide) (f41_con m hs)) rfl
  cases ho : offsB m with
  | false =>
    refine Con_intro Try.func12 rfl okY12 (Nat.le_of_ble_eq_true rfl) rfl ?_
    simp only [Try.f12, Option.getD_some, initSt2]
    simp (disch := first | (simp only [go_sem, Bool.and_self, eq_self]; done) | omega | (simp only [List.length_cons, List.length_nil]; omega)) only [go_sem, ↓reduceIte, Nat.reduceEqDiff, Nat.reduceAdd, Nat.reduceMul, Nat.reduceSub, Int.reduceToNat, Nat.reduceBEq, List.size_toArray, List.length_cons, List.length_nil, Bool.false_and, Bool.true_and, Bool.or_false, Bool.false_or, Bool.and_false, Bool.and_true, k38, hi, k41, ho]
  | true =>
    have H := Offs.of ho
    have hD := pw_pos m.length
    have e1 : proR m = .tup [FR (rdP (gI m 0) (pw m.length)), FR (rdP (wI m) (pw m.length)), I 0] := by simp [proR, ho]
    have e2 : ∀ t, thrR m t = .tup [FR (rdP (tI t m) (pw m.length)), I 0] := fun t => by simp [thrR, ho]
    rw [e1] at k39
    simp only [e2] at k40
    have bg := gI_b H.ok 0 (by decide)
    rw [Int.zero_mul] at bg
    have bw := wI_b H.ok
    have bt := fun t => tI_b H.ok t
    have gw := gI_ge_wI H.ok 0 (by decide)
    have pr := prophet H.ok _ (half_up hD bg.1)
    have pt1 := bt t
    have pt2 := bt (((rdP (gI m 0) (pw m.length)).1 + 2 * (rdP (gI m 0) (pw m.length)).2 - 1).tdiv (2 * (rdP (gI m 0) (pw m.length)).2))
    have m1 := modB_rd H.len bg.1 bg.2
    have m2 := modB_rd H.len bw.1 bw.2
    have m3 := modB_rd (x := tI t m) H.len pt1.1 (by omega)
    have l1 := less_rd (x := gI m 0) (y := wI m) hD (by omega)
    have l2 := less_rd (x := wI m) (y := tI t m) hD (by omega)
    have l3 := twice_rd (x := gI m 0) (y := wI m) hD (by omega)
    have hp := pw_le H.len
    have ua := rdP_den (a := gI m 0) hD
    have ub := rdP_num bg.1 hD
    have va := rdP_den (a := wI m) hD
    have vb := rdP_num bw.1 hD
    have wa := rdP_den (a := tI t m) hD
    have wb := rdP_num pt1.1 hD
    have kt := k40 t
    have kt := k40 t
    have r0 : (rdP (gI m 0) (pw m.length)).1 + 2 * (rdP (gI m 0) (pw m.length)).2 - 1 = (rdP (gI m 0) (pw m.length)).1 + 2 * (rdP (gI m 0) (pw m.length)).2 - 1 := rfl
    have kt2 := k40 (((rdP (gI m 0) (pw m.length)).1 + 2 * (rdP (gI m 0) (pw m.length)).2 - 1).tdiv (2 * (rdP (gI m 0) (pw m.length)).2))
    have m4 := modB_rd (x := tI (((rdP (gI m 0) (pw m.length)).1 + 2 * (rdP (gI m 0) (pw m.length)).2 - 1).tdiv (2 * (rdP (gI m 0) (pw m.length)).2)) m) H.len pt2.1 (by omega)
    have l4 := twice_rd (x := gI m 0) (y := tI (((rdP (gI m 0) (pw m.length)).1 + 2 * (rdP (gI m 0) (pw m.length)).2 - 1).tdiv (2 * (rdP (gI m 0) (pw m.length)).2)) m) hD pr
    have za := rdP_den (a := tI (((rdP (gI m 0) (pw m.length)).1 + 2 * (rdP (gI m 0) (pw m.length)).2 - 1).tdiv (2 * (rdP (gI m 0) (pw m.length)).2)) m) hD
    have zb := rdP_num pt2.1 hD
    have hq0 : 0 ≤ (rdP (gI m 0) (pw m.length)).1 + 2 * (rdP (gI m 0) (pw m.length)).2 - 1 := by omega
    have hq1 : ((rdP (gI m 0) (pw m.length)).1 + 2 * (rdP (gI m 0) (pw m.length)).2 - 1).tdiv (2 * (rdP (gI m 0) (pw m.length)).2) = ((rdP (gI m 0) (pw m.length)).1 + 2 * (rdP (gI m 0) (pw m.length)).2 - 1) / (2 * (rdP (gI m 0) (pw m.length)).2) := Int.tdiv_eq_ediv_of_nonneg hq0
    have hq2 := Int.ediv_nonneg hq0 (show 0 ≤ 2 * (rdP (gI m 0) (pw m.length)).2 by omega)
    have hq3 := Int.ediv_le_self (2 * (rdP (gI m 0) (pw m.length)).2) hq0
    rw [← hq1] at hq2 hq3
    clear hq1 r0
    generalize hτ : ((rdP (gI m 0) (pw m.length)).1 + 2 * (rdP (gI m 0) (pw m.length)).2 - 1).tdiv (2 * (rdP (gI m 0) (pw m.length)).2) = τ at *
    generalize rdP (tI τ m) (pw m.length) = z at *
    generalize rdP (tI t m) (pw m.length) = w at *
    generalize rdP (wI m) (pw m.length) = v at *
    generalize rdP (gI m 0) (pw m.length) = u at *
    generalize gI m 0 = G at *
    generalize wI m = W at *
    generalize tI t m = T at *
    generalize tI τ m = T' at *
    generalize pw m.length = D at *
    have k45 := fun {p : Int × Int} (hp : modB p = true) h h' K => ConW_num (h := h) (h' := h') (K := K) (liftY (by decide) (f45_con hp)) rfl
    have mm : ∀ {a b : Int}, 0 ≤ a → a ≤ 16777216000 → 0 ≤ b → b ≤ 16777216 → 0 ≤ a * b ∧ a * b ≤ 16777216000 * 16777216 := fun h1 h2 h3 h4 => ⟨Int.mul_nonneg h1 h3, Int.mul_le_mul h2 h4 h3 (by omega)⟩
    have p1 := mm (a := u.1) (b := v.2) (by omega) (by omega) (by omega) (by omega)
    have p2 := mm (a := v.1) (b := u.2) (by omega) (by omega) (by omega) (by omega)
    have p3 := mm (a := v.1) (b := w.2) (by omega) (by omega) (by omega) (by omega)
    have p4 := mm (a := w.1) (b := v.2) (by omega) (by omega) (by omega) (by omega)
    have p5 := mm (a := u.1) (b := z.2) (by omega) (by omega) (by omega) (by omega)
    have p6 := mm (a := z.1) (b := u.2) (by omega) (by omega) (by omega) (by omega)
    have q2 : 2 * v.1 * u.2 = 2 * (v.1 * u.2) := by rw [Int.mul_assoc]
    have q6 : 2 * z.1 * u.2 = 2 * (z.1 * u.2) := by rw [Int.mul_assoc]
    have f1 := fun h h' K => ConW_num (h := h) (h' := h') (K := K) (liftY (by decide) (f20_con u v (by simp only [big]; omega) (by simp only [big]; omega))) rfl
    have f2 := fun h h' K => ConW_num (h := h) (h' := h') (K := K) (liftY (by decide) (f20_con v w (by simp only [big]; omega) (by simp only [big]; omega))) rfl
    have ne : ¬ 2 * u.2 = 0 := by omega
    have ma := k45 m1
    have mb := k45 m2
    have mc := k45 m3
    have md := k45 m4
    have z0 : (0 : Int) = 0 := rfl
    refine Con_intro Try.func12 rfl okY12 (Nat.le_of_ble_eq_true rfl) rfl ?_
    simp only [Try.f12, Option.getD_some, initSt2]
    simp (disch := first | (simp only [go_sem, Bool.and_self, eq_self]; done) | omega | (simp only [List.length_cons, List.length_nil]; omega)) only [go_sem, ↓reduceIte, Nat.reduceEqDiff, Nat.reduceAdd, Nat.reduceMul, Nat.reduceSub, Int.reduceToNat, Nat.reduceBEq, List.size_toArray, List.length_cons, List.length_nil, Bool.false_and, Bool.true_and, Bool.or_false, Bool.false_or, Bool.and_false, Bool.and_true, k38, hi, k39, kt, kt2, k41, hal, ho, ma, mb, mc, md, z0, decide_true, Bool.not_true, ne, hτ, f1, f2, l1, l2, l3, l4]
end Go.Proofs.Ytgamcclfdkpcgaa
