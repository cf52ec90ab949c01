/-
  The reference's maximal sets, and its Least.
-/
import Derived.Test.YtkjdnnedncomgaaL5AD
set_option linter.unusedVariables false
set_option linter.unusedSimpArgs false
set_option maxRecDepth 10000
namespace Go.Proofs.Ytkjdnnedncomgaa
open Go Go.Am

variable {h h' : Hp} {K : AV → Hp → Prop}

/-- Element k shows that element i need not stay. -/
def overB (l : List Nat) (i k : Nat) : Bool := decide (Sub (nth l i) (nth l k)) && (decide (nth l i ≠ nth l k) || decide (k < i))
def stayB (l : List Nat) (i : Nat) : Bool := !(List.range l.length).any (overB l i)
def maxN (l : List Nat) (n : Nat) : List Nat := ((List.range n).filter (stayB l)).map (nth l)
def maxF (l : List Nat) : List Nat := maxN l l.length
theorem maxN_len (l : List Nat) (n : Nat) : (maxN l n).length ≤ n := by
  rw [maxN, List.length_map]
  exact Nat.le_trans (List.length_filter_le _ _) (by simp)

theorem f40_con (l : List Nat) (hl : l.length ≤ 1099511627776) (hp : ∀ p ∈ l, p < 2 ^ 36) : Con Try.prog cfg 40 [LI (natL l)] (LI (natL (maxF l))) := by
  have hnl : (natL l).length = l.length := by simp
  refine Con_intro Try.func40 rfl ok40 (Nat.le_of_ble_eq_true rfl) rfl ?_
  simp only [Try.f40, Option.getD_some, initSt1]
  simp (disch := first | (simp only [go_sem, Bool.and_self, eq_self]; done) | omega | (simp only [List.length_cons, List.length_nil]; omega)) only [go_sem, ↓reduceIte, Nat.reduceEqDiff, Nat.reduceAdd, Nat.reduceMul, Nat.reduceSub, Int.reduceToNat]
  refine WP_for 4 l.length (fun i st h => st 0 = LI (natL l) ∧ ∃ v, st 3 = v ∧ Own (e1 I) 1 h v (natL (maxN l i))) (by simp (disch := first | (simp only [go_sem, Bool.and_self, eq_self]; done) | omega | (simp only [List.length_cons, List.length_nil]; omega)) only [go_sem, ↓reduceIte, Nat.reduceEqDiff, Nat.reduceAdd, Nat.reduceMul, Nat.reduceSub, Int.reduceToNat]) ⟨by simp (disch := first | (simp only [go_sem, Bool.and_self, eq_self]; done) | omega | (simp only [List.length_cons, List.length_nil]; omega)) only [go_sem, ↓reduceIte, Nat.reduceEqDiff, Nat.reduceAdd, Nat.reduceMul, Nat.reduceSub, Int.reduceToNat], .nil, by simp (disch := first | (simp only [go_sem, Bool.and_self, eq_self]; done) | omega | (simp only [List.length_cons, List.length_nil]; omega)) only [go_sem, ↓reduceIte, Nat.reduceEqDiff, Nat.reduceAdd, Nat.reduceMul, Nat.reduceSub, Int.reduceToNat], .inl ⟨rfl, by simp [maxN]⟩⟩ ?_
  rintro i st h hi s4 ⟨s0, v, s3, how⟩
  by_cases hlt : i < l.length
  case neg =>
    have hie : i = l.length := by omega
    subst hie
    simp (disch := first | (simp only [go_sem, Bool.and_self, eq_self]; done) | omega | (simp only [List.length_cons, List.length_nil]; omega)) only [go_sem, ↓reduceIte, Nat.reduceEqDiff, Nat.reduceAdd, Nat.reduceMul, Nat.reduceSub, Int.reduceToNat, s0, s3, s4, hnl, hlt]
    exact export_Own (f := e1 I) 27 how
  have hi36 := hp _ (nth_mem hlt)
  have hni := natL_nth hlt
  simp (disch := first | (simp only [go_sem, Bool.and_self, eq_self]; done) | omega | (simp only [List.length_cons, List.length_nil]; omega)) only [go_sem, ↓reduceIte, Nat.reduceEqDiff, Nat.reduceAdd, Nat.reduceMul, Nat.reduceSub, Int.reduceToNat, s0, s3, s4, hnl, hlt]
  refine WP_cut (fun st g => g = h ∧ st 0 = LI (natL l) ∧ st 3 = v ∧ st 4 = I i ∧ st 5 = .bool (stayB l i)) ?_ ?_
  · refine WP_for 6 l.length (fun k st g => g = h ∧ st 0 = LI (natL l) ∧ st 3 = v ∧ st 4 = I i ∧ ((st 5 = .bool true ∧ ∀ k', k' < k → overB l i k' = false) ∨ (st 5 = .bool false ∧ stayB l i = false))) (by simp (disch := first | (simp only [go_sem, Bool.and_self, eq_self]; done) | omega | (simp only [List.length_cons, List.length_nil]; omega)) only [go_sem, ↓reduceIte, Nat.reduceEqDiff, Nat.reduceAdd, Nat.reduceMul, Nat.reduceSub, Int.reduceToNat]) ⟨rfl, by simp (disch := first | (simp only [go_sem, Bool.and_self, eq_self]; done) | omega | (simp only [List.length_cons, List.length_nil]; omega)) only [go_sem, ↓reduceIte, Nat.reduceEqDiff, Nat.reduceAdd, Nat.reduceMul, Nat.reduceSub, Int.reduceToNat, s0], by simp (disch := first | (simp only [go_sem, Bool.and_self, eq_self]; done) | omega | (simp only [List.length_cons, List.length_nil]; omega)) only [go_sem, ↓reduceIte, Nat.reduceEqDiff, Nat.reduceAdd, Nat.reduceMul, Nat.reduceSub, Int.reduceToNat, s3], by simp (disch := first | (simp only [go_sem, Bool.and_self, eq_self]; done) | omega | (simp only [List.length_cons, List.length_nil]; omega)) only [go_sem, ↓reduceIte, Nat.reduceEqDiff, Nat.reduceAdd, Nat.reduceMul, Nat.reduceSub, Int.reduceToNat, s4], .inl ⟨by simp (disch := first | (simp only [go_sem, Bool.and_self, eq_self]; done) | omega | (simp only [List.length_cons, List.length_nil]; omega)) only [go_sem, ↓reduceIte, Nat.reduceEqDiff, Nat.reduceAdd, Nat.reduceMul, Nat.reduceSub, Int.reduceToNat], by omega⟩⟩ ?_
    rintro k st g hk s6 ⟨rfl, s0, s3, s4, hor⟩
    rcases hor with ⟨s5, hn⟩ | ⟨s5, hst⟩
    case inr =>
      by_cases hkl : k < l.length
      · simp (disch := first | (simp only [go_sem, Bool.and_self, eq_self]; done) | omega | (simp only [List.length_cons, List.length_nil]; omega)) only [go_sem, ↓reduceIte, Nat.reduceEqDiff, Nat.reduceAdd, Nat.reduceMul, Nat.reduceSub, Int.reduceToNat, s0, s3, s4, s5, s6, hnl, hkl, hst]
      · simp (disch := first | (simp only [go_sem, Bool.and_self, eq_self]; done) | omega | (simp only [List.length_cons, List.length_nil]; omega)) only [go_sem, ↓reduceIte, Nat.reduceEqDiff, Nat.reduceAdd, Nat.reduceMul, Nat.reduceSub, Int.reduceToNat, s0, s3, s4, s5, s6, hnl, hkl, hst]
    by_cases hkl : k < l.length
    case neg =>
      have : stayB l i = true := by
        rw [stayB, Bool.not_eq_true', List.any_eq_false]
        intro k' hk'
        have := hn k' (by have := List.mem_range.1 hk'; omega)
        simp [this]
      simp (disch := first | (simp only [go_sem, Bool.and_self, eq_self]; done) | omega | (simp only [List.length_cons, List.length_nil]; omega)) only [go_sem, ↓reduceIte, Nat.reduceEqDiff, Nat.reduceAdd, Nat.reduceMul, Nat.reduceSub, Int.reduceToNat, s0, s3, s4, s5, s6, hnl, hkl, this]
    have hk36 := hp _ (nth_mem hkl)
    have hnk := natL_nth hkl
    have han := binA_andNot (P := Try.prog) 3 (nth l i) (nth l k) (by omega) (by omega)
    have next : overB l i k = false → ∀ k', k' < k + 1 → overB l i k' = false := by
      intro ho k' hk'
      rcases Nat.lt_or_ge k' k with h1 | h1
      · exact hn k' h1
      · rw [show k' = k by omega]; exact ho
    have stop : overB l i k = true → stayB l i = false := by
      intro ho
      rw [stayB, Bool.not_eq_false', List.any_eq_true]
      exact ⟨k, List.mem_range.2 hkl, ho⟩
    by_cases hsub : Sub (nth l i) (nth l k)
    case neg =>
      have hd0 : ¬ ((diffN (nth l i) (nth l k) : Nat) : Int) = 0 := by
        have : ¬ diffN (nth l i) (nth l k) = 0 := fun h => hsub (diffN_zero.1 h)
        omega
      have ho : overB l i k = false := by rw [overB, decide_eq_false hsub, Bool.false_and]
      simp (disch := first | (simp only [go_sem, Bool.and_self, eq_self]; done) | omega | (simp only [List.length_cons, List.length_nil]; omega)) only [go_sem, ↓reduceIte, Nat.reduceEqDiff, Nat.reduceAdd, Nat.reduceMul, Nat.reduceSub, Int.reduceToNat, s0, s3, s4, s5, s6, hnl, hkl, hlt, hni, hnk, han, hd0]
      rw [ForK_normal]
      exact ⟨hkl, by simp (disch := first | (simp only [go_sem, Bool.and_self, eq_self]; done) | omega | (simp only [List.length_cons, List.length_nil]; omega)) only [go_sem, ↓reduceIte, Nat.reduceEqDiff, Nat.reduceAdd, Nat.reduceMul, Nat.reduceSub, Int.reduceToNat, s6], rfl, by simp (disch := first | (simp only [go_sem, Bool.and_self, eq_self]; done) | omega | (simp only [List.length_cons, List.length_nil]; omega)) only [go_sem, ↓reduceIte, Nat.reduceEqDiff, Nat.reduceAdd, Nat.reduceMul, Nat.reduceSub, Int.reduceToNat, s0], by simp (disch := first | (simp only [go_sem, Bool.and_self, eq_self]; done) | omega | (simp only [List.length_cons, List.length_nil]; omega)) only [go_sem, ↓reduceIte, Nat.reduceEqDiff, Nat.reduceAdd, Nat.reduceMul, Nat.reduceSub, Int.reduceToNat, s3], by simp (disch := first | (simp only [go_sem, Bool.and_self, eq_self]; done) | omega | (simp only [List.length_cons, List.length_nil]; omega)) only [go_sem, ↓reduceIte, Nat.reduceEqDiff, Nat.reduceAdd, Nat.reduceMul, Nat.reduceSub, Int.reduceToNat, s4], .inl ⟨by simp (disch := first | (simp only [go_sem, Bool.and_self, eq_self]; done) | omega | (simp only [List.length_cons, List.length_nil]; omega)) only [go_sem, ↓reduceIte, Nat.reduceEqDiff, Nat.reduceAdd, Nat.reduceMul, Nat.reduceSub, Int.reduceToNat, s5], next ho⟩⟩
    have hd0 : ((diffN (nth l i) (nth l k) : Nat) : Int) = 0 := by
      have : diffN (nth l i) (nth l k) = 0 := diffN_zero.2 hsub
      omega
    by_cases hne : nth l i = nth l k
    case neg =>
      have ho : overB l i k = true := by rw [overB, decide_eq_true hsub, decide_eq_true hne]; rfl
      simp (disch := first | (simp only [go_sem, Bool.and_self, eq_self]; done) | omega | (simp only [List.length_cons, List.length_nil]; omega)) only [go_sem, ↓reduceIte, Nat.reduceEqDiff, Nat.reduceAdd, Nat.reduceMul, Nat.reduceSub, Int.reduceToNat, s0, s3, s4, s5, s6, hnl, hkl, hlt, hni, hnk, han, hd0, hne]
      rw [ForK_normal]
      exact ⟨hkl, by simp (disch := first | (simp only [go_sem, Bool.and_self, eq_self]; done) | omega | (simp only [List.length_cons, List.length_nil]; omega)) only [go_sem, ↓reduceIte, Nat.reduceEqDiff, Nat.reduceAdd, Nat.reduceMul, Nat.reduceSub, Int.reduceToNat, s6], rfl, by simp (disch := first | (simp only [go_sem, Bool.and_self, eq_self]; done) | omega | (simp only [List.length_cons, List.length_nil]; omega)) only [go_sem, ↓reduceIte, Nat.reduceEqDiff, Nat.reduceAdd, Nat.reduceMul, Nat.reduceSub, Int.reduceToNat, s0], by simp (disch := first | (simp only [go_sem, Bool.and_self, eq_self]; done) | omega | (simp only [List.length_cons, List.length_nil]; omega)) only [go_sem, ↓reduceIte, Nat.reduceEqDiff, Nat.reduceAdd, Nat.reduceMul, Nat.reduceSub, Int.reduceToNat, s3], by simp (disch := first | (simp only [go_sem, Bool.and_self, eq_self]; done) | omega | (simp only [List.length_cons, List.length_nil]; omega)) only [go_sem, ↓reduceIte, Nat.reduceEqDiff, Nat.reduceAdd, Nat.reduceMul, Nat.reduceSub, Int.reduceToNat, s4], .inr ⟨by simp (disch := first | (simp only [go_sem, Bool.and_self, eq_self]; done) | omega | (simp only [List.length_cons, List.length_nil]; omega)) only [go_sem, ↓reduceIte, Nat.reduceEqDiff, Nat.reduceAdd, Nat.reduceMul, Nat.reduceSub, Int.reduceToNat], stop ho⟩⟩
    by_cases hki : k < i
    · have ho : overB l i k = true := by rw [overB, decide_eq_true hsub, decide_eq_true hki, Bool.or_true]; rfl
      simp (disch := first | (simp only [go_sem, Bool.and_self, eq_self]; done) | omega | (simp only [List.length_cons, List.length_nil]; omega)) only [go_sem, ↓reduceIte, Nat.reduceEqDiff, Nat.reduceAdd, Nat.reduceMul, Nat.reduceSub, Int.reduceToNat, s0, s3, s4, s5, s6, hnl, hkl, hlt, hni, hnk, han, hd0, eq_true hne, hki]
      rw [ForK_normal]
      exact ⟨hkl, by simp (disch := first | (simp only [go_sem, Bool.and_self, eq_self]; done) | omega | (simp only [List.length_cons, List.length_nil]; omega)) only [go_sem, ↓reduceIte, Nat.reduceEqDiff, Nat.reduceAdd, Nat.reduceMul, Nat.reduceSub, Int.reduceToNat, s6], rfl, by simp (disch := first | (simp only [go_sem, Bool.and_self, eq_self]; done) | omega | (simp only [List.length_cons, List.length_nil]; omega)) only [go_sem, ↓reduceIte, Nat.reduceEqDiff, Nat.reduceAdd, Nat.reduceMul, Nat.reduceSub, Int.reduceToNat, s0], by simp (disch := first | (simp only [go_sem, Bool.and_self, eq_self]; done) | omega | (simp only [List.length_cons, List.length_nil]; omega)) only [go_sem, ↓reduceIte, Nat.reduceEqDiff, Nat.reduceAdd, Nat.reduceMul, Nat.reduceSub, Int.reduceToNat, s3], by simp (disch := first | (simp only [go_sem, Bool.and_self, eq_self]; done) | omega | (simp only [List.length_cons, List.length_nil]; omega)) only [go_sem, ↓reduceIte, Nat.reduceEqDiff, Nat.reduceAdd, Nat.reduceMul, Nat.reduceSub, Int.reduceToNat, s4], .inr ⟨by simp (disch := first | (simp only [go_sem, Bool.and_self, eq_self]; done) | omega | (simp only [List.length_cons, List.length_nil]; omega)) only [go_sem, ↓reduceIte, Nat.reduceEqDiff, Nat.reduceAdd, Nat.reduceMul, Nat.reduceSub, Int.reduceToNat], stop ho⟩⟩
    · have ho : overB l i k = false := by rw [overB, decide_eq_false (show ¬ nth l i ≠ nth l k from fun h => h hne), decide_eq_false hki]; simp
      simp (disch := first | (simp only [go_sem, Bool.and_self, eq_self]; done) | omega | (simp only [List.length_cons, List.length_nil]; omega)) only [go_sem, ↓reduceIte, Nat.reduceEqDiff, Nat.reduceAdd, Nat.reduceMul, Nat.reduceSub, Int.reduceToNat, s0, s3, s4, s5, s6, hnl, hkl, hlt, hni, hnk, han, hd0, eq_true hne, hki]
      rw [ForK_normal]
      exact ⟨hkl, by simp (disch := first | (simp only [go_sem, Bool.and_self, eq_self]; done) | omega | (simp only [List.length_cons, List.length_nil]; omega)) only [go_sem, ↓reduceIte, Nat.reduceEqDiff, Nat.reduceAdd, Nat.reduceMul, Nat.reduceSub, Int.reduceToNat, s6], rfl, by simp (disch := first | (simp only [go_sem, Bool.and_self, eq_self]; done) | omega | (simp only [List.length_cons, List.length_nil]; omega)) only [go_sem, ↓reduceIte, Nat.reduceEqDiff, Nat.reduceAdd, Nat.reduceMul, Nat.reduceSub, Int.reduceToNat, s0], by simp (disch := first | (simp only [go_sem, Bool.and_self, eq_self]; done) | omega | (simp only [List.length_cons, List.length_nil]; omega)) only [go_sem, ↓reduceIte, Nat.reduceEqDiff, Nat.reduceAdd, Nat.reduceMul, Nat.reduceSub, Int.reduceToNat, s3], by simp (disch := first | (simp only [go_sem, Bool.and_self, eq_self]; done) | omega | (simp only [List.length_cons, List.length_nil]; omega)) only [go_sem, ↓reduceIte, Nat.reduceEqDiff, Nat.reduceAdd, Nat.reduceMul, Nat.reduceSub, Int.reduceToNat, s4], .inl ⟨by simp (disch := first | (simp only [go_sem, Bool.and_self, eq_self]; done) | omega | (simp only [List.length_cons, List.length_nil]; omega)) only [go_sem, ↓reduceIte, Nat.reduceEqDiff, Nat.reduceAdd, Nat.reduceMul, Nat.reduceSub, Int.reduceToNat, s5], next ho⟩⟩
  rintro st g ⟨rfl, s0, s3, s4, s5⟩
  have hml := maxN_len l i
  cases hst : stayB l i with
  | false =>
    have e : maxN l (i + 1) = maxN l i := by simp [maxN, List.range_succ, List.filter_append, hst]
    rw [hst] at s5
    simp (disch := first | (simp only [go_sem, Bool.and_self, eq_self]; done) | omega | (simp only [List.length_cons, List.length_nil]; omega)) only [go_sem, ↓reduceIte, Nat.reduceEqDiff, Nat.reduceAdd, Nat.reduceMul, Nat.reduceSub, Int.reduceToNat, s0, s3, s4, s5]
    rw [ForK_normal]
    exact ⟨hlt, by simp (disch := first | (simp only [go_sem, Bool.and_self, eq_self]; done) | omega | (simp only [List.length_cons, List.length_nil]; omega)) only [go_sem, ↓reduceIte, Nat.reduceEqDiff, Nat.reduceAdd, Nat.reduceMul, Nat.reduceSub, Int.reduceToNat, s4], by simp (disch := first | (simp only [go_sem, Bool.and_self, eq_self]; done) | omega | (simp only [List.length_cons, List.length_nil]; omega)) only [go_sem, ↓reduceIte, Nat.reduceEqDiff, Nat.reduceAdd, Nat.reduceMul, Nat.reduceSub, Int.reduceToNat, s0], v, by simp (disch := first | (simp only [go_sem, Bool.and_self, eq_self]; done) | omega | (simp only [List.length_cons, List.length_nil]; omega)) only [go_sem, ↓reduceIte, Nat.reduceEqDiff, Nat.reduceAdd, Nat.reduceMul, Nat.reduceSub, Int.reduceToNat, s3], by rw [e]; exact how⟩
  | true =>
    have e : natL (maxN l (i + 1)) = natL (maxN l i) ++ [((nth l i : Nat) : Int)] := by simp [maxN, List.range_succ, List.filter_append, hst]
    rw [hst] at s5
    have hbs := fun h : Hp => bsB_one (P := Try.prog) (h := h) 3 (I ((nth l i : Nat) : Int)) (I ((nth l i : Nat) : Int)) (I 0) h isz3 izero3 rfl rfl rfl rfl rfl rfl rfl
    have happ := app_one (P := Try.prog) how 3 8 (I 0) ((nth l i : Nat) : Int) isz3 ibytes3 izero3 rfl (by simp; omega) (by simp; omega)
    simp (disch := first | (simp only [go_sem, Bool.and_self, eq_self]; done) | omega | (simp only [List.length_cons, List.length_nil]; omega)) only [go_sem, ↓reduceIte, Nat.reduceEqDiff, Nat.reduceAdd, Nat.reduceMul, Nat.reduceSub, Int.reduceToNat, s0, s3, s4, s5, hnl, hlt, hni, hbs, happ]
    rw [ForK_normal]
    refine ⟨hlt, by simp (disch := first | (simp only [go_sem, Bool.and_self, eq_self]; done) | omega | (simp only [List.length_cons, List.length_nil]; omega)) only [go_sem, ↓reduceIte, Nat.reduceEqDiff, Nat.reduceAdd, Nat.reduceMul, Nat.reduceSub, Int.reduceToNat, s4], by simp (disch := first | (simp only [go_sem, Bool.and_self, eq_self]; done) | omega | (simp only [List.length_cons, List.length_nil]; omega)) only [go_sem, ↓reduceIte, Nat.reduceEqDiff, Nat.reduceAdd, Nat.reduceMul, Nat.reduceSub, Int.reduceToNat, s0], _, by simp (disch := first | (simp only [go_sem, Bool.and_self, eq_self]; done) | omega | (simp only [List.length_cons, List.length_nil]; omega)) only [go_sem, ↓reduceIte, Nat.reduceEqDiff, Nat.reduceAdd, Nat.reduceMul, Nat.reduceSub, Int.reduceToNat]; rfl, ?_⟩
    rw [e]; exact Own.app _ _ _
theorem k40 (l : List Nat) (hl : l.length ≤ 1099511627776) (hp : ∀ p ∈ l, p < 2 ^ 36) : ConW Try.prog cfg 40 h (some ([LI (natL l)], h')) K = K (LI (natL (maxF l))) h' := by
  rw [ConW_any (f40_con l hl hp) rfl]; rfl

/-- One chamber more. -/
def nextF (now one : List Nat) : List Nat := now.flatMap fun s => one.map fun o => s ||| o
def nowF (one : List Nat) : Nat → List Nat
  | 0 => [0]
  | c + 1 => maxF (nextF (nowF one c) one)
theorem nextF_len (now one : List Nat) : (nextF now one).length = now.length * one.length := by
  induction now with
  | nil => simp [nextF]
  | cons x l ih => rw [nextF, List.flatMap_cons, List.length_append]; rw [nextF] at ih; rw [ih]; simp [Nat.succ_mul]; omega
theorem nextF_lt {now one : List Nat} (h1 : ∀ s ∈ now, s < 2 ^ 36) (h2 : ∀ s ∈ one, s < 2 ^ 36) : ∀ s ∈ nextF now one, s < 2 ^ 36 := by
  intro s hs
  rw [nextF, List.mem_flatMap] at hs
  obtain ⟨x, hx, hs⟩ := hs
  obtain ⟨o, ho, rfl⟩ := List.mem_map.1 hs
  exact Nat.or_lt_two_pow (h1 x hx) (h2 o ho)
theorem maxF_mem {l : List Nat} {x : Nat} (h : x ∈ maxF l) : x ∈ l := by
  rw [maxF, maxN, List.mem_map] at h
  obtain ⟨i, hi, rfl⟩ := h
  have := List.mem_range.1 (List.mem_filter.1 hi).1
  exact nth_mem this
/-- The least number of chambers, up to n; 0: there is none. -/
def refN (one : List Nat) (all : Nat) : Nat → Nat
  | 0 => 0
  | n + 1 => if refN one all n ≠ 0 then refN one all n else if all ∈ nextF (nowF one n) one then n + 1 else 0
theorem refN_none {one : List Nat} {all n : Nat} (h : ∀ j, j < n → ¬ all ∈ nextF (nowF one j) one) : refN one all n = 0 := by
  induction n with
  | zero => rfl
  | succ n ih => rw [refN, ih fun j hj => h j (by omega), if_neg (h n (by omega))]; simp
theorem refN_at {one : List Nat} {all i : Nat} (h : ∀ j, j < i → ¬ all ∈ nextF (nowF one j) one) (h1 : all ∈ nextF (nowF one i) one) : ∀ n, i < n → refN one all n = i + 1 := by
  intro n
  induction n with
  | zero => intro hi; omega
  | succ n ih =>
    intro hi
    rw [refN]
    rcases Nat.lt_or_ge i n with h2 | h2
    · rw [ih h2]; simp
    · have : n = i := by omega
      subst this
      rw [refN_none h, if_pos h1]; simp

/-- The elements before place j of row i. -/
def someF (now one : List Nat) (i j : Nat) : List Nat := nextF (now.take i) one ++ (one.take j).map fun o => nth now i ||| o
theorem nextF_take {now one : List Nat} {i : Nat} (hi : i < now.length) : nextF (now.take (i + 1)) one = nextF (now.take i) one ++ one.map fun o => nth now i ||| o := by
  rw [nextF, List.take_add_one, nth_get hi, Option.toList_some, List.flatMap_append]
  simp [nextF]

theorem f22_con {a : List (List Int)} (f : Pl a) {d : Nat} (hd : 1 ≤ d ∧ d ≤ 4) : Con Try.prog cfg 22 [LLI a, I d] (I (refN (maxF (chsF a d a.length [] 0)) (goalM a) 4)) := by
  have hk := f.keys
  have kk1 := fun h h' K => k39 (h := h) (h' := h') (K := K) f
  have kk2 := fun h h' K => k41 (h := h) (h' := h') (K := K) f hd
  have hcl : (chsF a d a.length [] 0).length ≤ 1024 := by
    rw [chsF, List.length_map]
    obtain ⟨m, hm⟩ : ∃ m, a.length = m + 1 := ⟨a.length - 1, by omega⟩
    rw [hm, lv]
    have e : min (0 + 1) d = 1 := by omega
    rw [e]
    have e2 : List.range 1 = [0] := rfl
    rw [e2, List.flatMap_cons, List.flatMap_nil, List.append_nil]
    refine Nat.le_trans (lv_len _ _ _ _) ?_
    exact Nat.le_trans (Nat.pow_le_pow_left hd.2 _) (Nat.le_trans (Nat.pow_le_pow_right (by decide) (show m ≤ 5 by omega)) (by decide))
  have hc36 : ∀ p ∈ chsF a d a.length [] 0, p < 2 ^ 36 := by
    intro p hp
    obtain ⟨x, _, rfl⟩ := List.mem_map.1 hp
    exact blk_lt f x
  have kk3 := fun h h' K => k40 (h := h) (h' := h') (K := K) (chsF a d a.length [] 0) (by omega) hc36
  have hol : (maxF (chsF a d a.length [] 0)).length ≤ 1024 := Nat.le_trans (maxN_len _ _) hcl
  have ho36 : ∀ p ∈ maxF (chsF a d a.length [] 0), p < 2 ^ 36 := fun p hp => hc36 p (maxF_mem hp)
  generalize maxF (chsF a d a.length [] 0) = one at *
  have hnowl : ∀ c, (nowF one c).length ≤ 1024 ^ c := by
    intro c
    induction c with
    | zero => simp [nowF]
    | succ c ih =>
      rw [nowF]
      refine Nat.le_trans (maxN_len _ _) ?_
      rw [nextF_len, Nat.pow_succ]
      exact Nat.mul_le_mul ih hol
  have hnow36 : ∀ c, ∀ s ∈ nowF one c, s < 2 ^ 36 := by
    intro c
    induction c with
    | zero => intro s hs; simp [nowF] at hs; subst hs; decide
    | succ c ih => intro s hs; exact nextF_lt ih ho36 s (maxF_mem hs)
  have hg36 := goal_lt f
  have hbs0 := fun h : Hp => bsB_one (P := Try.prog) (h := h) 3 (I 0) (I 0) (I 0) h isz3 izero3 rfl rfl rfl rfl rfl rfl rfl
  have hnow0 : LI (natL (nowF one 0)) = .lst [[I 0]] := rfl
  have honl : (natL one).length = one.length := by simp
  refine Con_intro Try.func22 rfl ok22 (Nat.le_of_ble_eq_true rfl) rfl ?_
  simp only [Try.f22, Option.getD_some, initSt2]
  simp (disch := first | (simp only [go_sem, Bool.and_self, eq_self]; done) | omega | (simp only [List.length_cons, List.length_nil]; omega)) only [go_sem, ↓reduceIte, Nat.reduceEqDiff, Nat.reduceAdd, Nat.reduceMul, Nat.reduceSub, Int.reduceToNat, kk1, kk2, kk3, hbs0]
  refine WP_for1 8 4 (fun c st h => st 5 = I (goalM a) ∧ st 6 = LI (natL one) ∧ st 7 = LI (natL (nowF one c)) ∧ ∀ j, j < c → ¬ goalM a ∈ nextF (nowF one j) one) (by simp (disch := first | (simp only [go_sem, Bool.and_self, eq_self]; done) | omega | (simp only [List.length_cons, List.length_nil]; omega)) only [go_sem, ↓reduceIte, Nat.reduceEqDiff, Nat.reduceAdd, Nat.reduceMul, Nat.reduceSub, Int.reduceToNat]) ⟨by simp (disch := first | (simp only [go_sem, Bool.and_self, eq_self]; done) | omega | (simp only [List.length_cons, List.length_nil]; omega)) only [go_sem, ↓reduceIte, Nat.reduceEqDiff, Nat.reduceAdd, Nat.reduceMul, Nat.reduceSub, Int.reduceToNat], by simp (disch := first | (simp only [go_sem, Bool.and_self, eq_self]; done) | omega | (simp only [List.length_cons, List.length_nil]; omega)) only [go_sem, ↓reduceIte, Nat.reduceEqDiff, Nat.reduceAdd, Nat.reduceMul, Nat.reduceSub, Int.reduceToNat], by simp (disch := first | (simp only [go_sem, Bool.and_self, eq_self]; done) | omega | (simp only [List.length_cons, List.length_nil]; omega)) only [go_sem, ↓reduceIte, Nat.reduceEqDiff, Nat.reduceAdd, Nat.reduceMul, Nat.reduceSub, Int.reduceToNat, hnow0], by omega⟩ ?_
  rintro c st h hc s8 ⟨s5, s6, s7, hn⟩
  by_cases hlt : (c : Int) + 1 ≤ 4
  case neg =>
    have : refN one (goalM a) 4 = 0 := refN_none fun j hj => hn j (by omega)
    simp (disch := first | (simp only [go_sem, Bool.and_self, eq_self]; done) | omega | (simp only [List.length_cons, List.length_nil]; omega)) only [go_sem, ↓reduceIte, Nat.reduceEqDiff, Nat.reduceAdd, Nat.reduceMul, Nat.reduceSub, Int.reduceToNat, s5, s6, s7, s8, hlt, this, Int.natCast_zero]
  have hc3 : c ≤ 3 := by omega
  have hnl := hnowl c
  have hn36 := hnow36 c
  have h1024 : 1024 ^ c ≤ 1073741824 := Nat.le_trans (Nat.pow_le_pow_right (by decide) hc3) (by decide)
  generalize hnow : nowF one c = now at *
  have hnnl : (natL now).length = now.length := by simp
  simp (disch := first | (simp only [go_sem, Bool.and_self, eq_self]; done) | omega | (simp only [List.length_cons, List.length_nil]; omega)) only [go_sem, ↓reduceIte, Nat.reduceEqDiff, Nat.reduceAdd, Nat.reduceMul, Nat.reduceSub, Int.reduceToNat, s5, s6, s7, s8, hlt]
  have hbound : ∀ i j, i < now.length → j ≤ one.length → (someF now one i j).length ≤ 1099511627776 := by
    intro i j hi hj
    rw [someF, List.length_append, nextF_len, List.length_take, List.length_map, List.length_take]
    have h1 : min i now.length * one.length ≤ now.length * one.length := Nat.mul_le_mul_right _ (by omega)
    have h2 : now.length * one.length ≤ 1073741824 * 1024 := Nat.mul_le_mul (by omega) hol
    have h3 : min i now.length * one.length + one.length ≤ now.length * one.length := by
      rw [← Nat.succ_mul]; exact Nat.mul_le_mul_right _ (by omega)
    omega
  refine WP_cut (fun st h => st 5 = I (goalM a) ∧ st 6 = LI (natL one) ∧ st 7 = LI (natL now) ∧ st 8 = I ((c : Int) + 1) ∧ (∃ v, st 9 = v ∧ Own (e1 I) 1 h v (natL (nextF now one))) ∧ ¬ goalM a ∈ nextF now one) ?_ ?_
  · refine WP_for 10 now.length (fun i st h => st 5 = I (goalM a) ∧ st 6 = LI (natL one) ∧ st 7 = LI (natL now) ∧ st 8 = I ((c : Int) + 1) ∧ (∃ v, st 9 = v ∧ Own (e1 I) 1 h v (natL (nextF (now.take i) one))) ∧ ¬ goalM a ∈ nextF (now.take i) one) (by simp (disch := first | (simp only [go_sem, Bool.and_self, eq_self]; done) | omega | (simp only [List.length_cons, List.length_nil]; omega)) only [go_sem, ↓reduceIte, Nat.reduceEqDiff, Nat.reduceAdd, Nat.reduceMul, Nat.reduceSub, Int.reduceToNat]) ⟨by simp (disch := first | (simp only [go_sem, Bool.and_self, eq_self]; done) | omega | (simp only [List.length_cons, List.length_nil]; omega)) only [go_sem, ↓reduceIte, Nat.reduceEqDiff, Nat.reduceAdd, Nat.reduceMul, Nat.reduceSub, Int.reduceToNat, s5, s6, s7, s8], by simp (disch := first | (simp only [go_sem, Bool.and_self, eq_self]; done) | omega | (simp only [List.length_cons, List.length_nil]; omega)) only [go_sem, ↓reduceIte, Nat.reduceEqDiff, Nat.reduceAdd, Nat.reduceMul, Nat.reduceSub, Int.reduceToNat, s5, s6, s7, s8], by simp (disch := first | (simp only [go_sem, Bool.and_self, eq_self]; done) | omega | (simp only [List.length_cons, List.length_nil]; omega)) only [go_sem, ↓reduceIte, Nat.reduceEqDiff, Nat.reduceAdd, Nat.reduceMul, Nat.reduceSub, Int.reduceToNat, s5, s6, s7, s8], by simp (disch := first | (simp only [go_sem, Bool.and_self, eq_self]; done) | omega | (simp only [List.length_cons, List.length_nil]; omega)) only [go_sem, ↓reduceIte, Nat.reduceEqDiff, Nat.reduceAdd, Nat.reduceMul, Nat.reduceSub, Int.reduceToNat, s5, s6, s7, s8], ⟨.nil, by simp (disch := first | (simp only [go_sem, Bool.and_self, eq_self]; done) | omega | (simp only [List.length_cons, List.length_nil]; omega)) only [go_sem, ↓reduceIte, Nat.reduceEqDiff, Nat.reduceAdd, Nat.reduceMul, Nat.reduceSub, Int.reduceToNat], .inl ⟨rfl, rfl⟩⟩, by simp [nextF]⟩ ?_
    rintro i st h hi s10 ⟨s5, s6, s7, s8, ⟨v, s9, how⟩, hnot⟩
    by_cases hin : i < now.length
    case neg =>
      have hie : i = now.length := by omega
      subst hie
      rw [List.take_length] at how hnot
      simp (disch := first | (simp only [go_sem, Bool.and_self, eq_self]; done) | omega | (simp only [List.length_cons, List.length_nil]; omega)) only [go_sem, ↓reduceIte, Nat.reduceEqDiff, Nat.reduceAdd, Nat.reduceMul, Nat.reduceSub, Int.reduceToNat, s5, s6, s7, s8, s9, s10, hnnl, hin]
      exact ⟨⟨v, rfl, how⟩, hnot⟩
    simp (disch := first | (simp only [go_sem, Bool.and_self, eq_self]; done) | omega | (simp only [List.length_cons, List.length_nil]; omega)) only [go_sem, ↓reduceIte, Nat.reduceEqDiff, Nat.reduceAdd, Nat.reduceMul, Nat.reduceSub, Int.reduceToNat, s5, s6, s7, s8, s9, s10, hnnl, hin]
    have hs36 := hn36 _ (nth_mem hin)
    have hns := natL_nth hin
    refine WP_for 11 one.length (fun j st h => st 5 = I (goalM a) ∧ st 6 = LI (natL one) ∧ st 7 = LI (natL now) ∧ st 8 = I ((c : Int) + 1) ∧ st 10 = I i ∧ (∃ v, st 9 = v ∧ Own (e1 I) 1 h v (natL (someF now one i j))) ∧ ¬ goalM a ∈ someF now one i j) (by simp (disch := first | (simp only [go_sem, Bool.and_self, eq_self]; done) | omega | (simp only [List.length_cons, List.length_nil]; omega)) only [go_sem, ↓reduceIte, Nat.reduceEqDiff, Nat.reduceAdd, Nat.reduceMul, Nat.reduceSub, Int.reduceToNat]) ⟨by simp (disch := first | (simp only [go_sem, Bool.and_self, eq_self]; done) | omega | (simp only [List.length_cons, List.length_nil]; omega)) only [go_sem, ↓reduceIte, Nat.reduceEqDiff, Nat.reduceAdd, Nat.reduceMul, Nat.reduceSub, Int.reduceToNat, s5, s6, s7, s8, s10], by simp (disch := first | (simp only [go_sem, Bool.and_self, eq_self]; done) | omega | (simp only [List.length_cons, List.length_nil]; omega)) only [go_sem, ↓reduceIte, Nat.reduceEqDiff, Nat.reduceAdd, Nat.reduceMul, Nat.reduceSub, Int.reduceToNat, s5, s6, s7, s8, s10], by simp (disch := first | (simp only [go_sem, Bool.and_self, eq_self]; done) | omega | (simp only [List.length_cons, List.length_nil]; omega)) only [go_sem, ↓reduceIte, Nat.reduceEqDiff, Nat.reduceAdd, Nat.reduceMul, Nat.reduceSub, Int.reduceToNat, s5, s6, s7, s8, s10], by simp (disch := first | (simp only [go_sem, Bool.and_self, eq_self]; done) | omega | (simp only [List.length_cons, List.length_nil]; omega)) only [go_sem, ↓reduceIte, Nat.reduceEqDiff, Nat.reduceAdd, Nat.reduceMul, Nat.reduceSub, Int.reduceToNat, s5, s6, s7, s8, s10], by simp (disch := first | (simp only [go_sem, Bool.and_self, eq_self]; done) | omega | (simp only [List.length_cons, List.length_nil]; omega)) only [go_sem, ↓reduceIte, Nat.reduceEqDiff, Nat.reduceAdd, Nat.reduceMul, Nat.reduceSub, Int.reduceToNat, s5, s6, s7, s8, s10], ⟨v, by simp (disch := first | (simp only [go_sem, Bool.and_self, eq_self]; done) | omega | (simp only [List.length_cons, List.length_nil]; omega)) only [go_sem, ↓reduceIte, Nat.reduceEqDiff, Nat.reduceAdd, Nat.reduceMul, Nat.reduceSub, Int.reduceToNat, s9], by simpa [someF] using how⟩, by simpa [someF] using hnot⟩ ?_
    rintro j st h hj s11 ⟨s5, s6, s7, s8, s10, ⟨v, s9, how⟩, hnot⟩
    by_cases hjo : j < one.length
    case neg =>
      have hje : j = one.length := by omega
      subst hje
      simp (disch := first | (simp only [go_sem, Bool.and_self, eq_self]; done) | omega | (simp only [List.length_cons, List.length_nil]; omega)) only [go_sem, ↓reduceIte, Nat.reduceEqDiff, Nat.reduceAdd, Nat.reduceMul, Nat.reduceSub, Int.reduceToNat, s5, s6, s7, s8, s10, s9, s11, honl, hjo]
      rw [ForK_normal]
      rw [someF, List.take_length, ← nextF_take hin] at how hnot
      exact ⟨hin, by simp (disch := first | (simp only [go_sem, Bool.and_self, eq_self]; done) | omega | (simp only [List.length_cons, List.length_nil]; omega)) only [go_sem, ↓reduceIte, Nat.reduceEqDiff, Nat.reduceAdd, Nat.reduceMul, Nat.reduceSub, Int.reduceToNat, s10], by simp (disch := first | (simp only [go_sem, Bool.and_self, eq_self]; done) | omega | (simp only [List.length_cons, List.length_nil]; omega)) only [go_sem, ↓reduceIte, Nat.reduceEqDiff, Nat.reduceAdd, Nat.reduceMul, Nat.reduceSub, Int.reduceToNat, s5], by simp (disch := first | (simp only [go_sem, Bool.and_self, eq_self]; done) | omega | (simp only [List.length_cons, List.length_nil]; omega)) only [go_sem, ↓reduceIte, Nat.reduceEqDiff, Nat.reduceAdd, Nat.reduceMul, Nat.reduceSub, Int.reduceToNat, s6], by simp (disch := first | (simp only [go_sem, Bool.and_self, eq_self]; done) | omega | (simp only [List.length_cons, List.length_nil]; omega)) only [go_sem, ↓reduceIte, Nat.reduceEqDiff, Nat.reduceAdd, Nat.reduceMul, Nat.reduceSub, Int.reduceToNat, s7], by simp (disch := first | (simp only [go_sem, Bool.and_self, eq_self]; done) | omega | (simp only [List.length_cons, List.length_nil]; omega)) only [go_sem, ↓reduceIte, Nat.reduceEqDiff, Nat.reduceAdd, Nat.reduceMul, Nat.reduceSub, Int.reduceToNat, s8], ⟨v, by simp (disch := first | (simp only [go_sem, Bool.and_self, eq_self]; done) | omega | (simp only [List.length_cons, List.length_nil]; omega)) only [go_sem, ↓reduceIte, Nat.reduceEqDiff, Nat.reduceAdd, Nat.reduceMul, Nat.reduceSub, Int.reduceToNat, s9], how⟩, hnot⟩
    have ho2 := ho36 _ (nth_mem hjo)
    have hno := natL_nth hjo
    have hor := binA_or (P := Try.prog) 3 (nth now i) (nth one j) (by omega) (by omega)
    have hsome : someF now one i (j + 1) = someF now one i j ++ [nth now i ||| nth one j] := by
      rw [someF, someF, List.take_add_one, nth_get hjo, Option.toList_some, List.map_append, List.append_assoc]; rfl
    by_cases hall : nth now i ||| nth one j = goalM a
    · have hmem : goalM a ∈ nextF now one := by
        rw [nextF, List.mem_flatMap]
        exact ⟨_, nth_mem hin, List.mem_map.2 ⟨_, nth_mem hjo, hall⟩⟩
      have hres : refN one (goalM a) 4 = c + 1 := refN_at (i := c) hn (by rw [hnow]; exact hmem) 4 (by omega)
      have hres' : ((refN one (goalM a) 4 : Nat) : Int) = (c : Int) + 1 := by omega
      simp (disch := first | (simp only [go_sem, Bool.and_self, eq_self]; done) | omega | (simp only [List.length_cons, List.length_nil]; omega)) only [go_sem, ↓reduceIte, Nat.reduceEqDiff, Nat.reduceAdd, Nat.reduceMul, Nat.reduceSub, Int.reduceToNat, s5, s6, s7, s8, s10, s9, s11, honl, hnnl, hin, hjo, hns, hno, hor, eq_true hall, hres']
    · have hb := hbound i j hin (by omega)
      have hbs := fun h : Hp => bsB_one (P := Try.prog) (h := h) 3 (I (nth now i ||| nth one j : Nat)) (I (nth now i ||| nth one j : Nat)) (I 0) h isz3 izero3 rfl rfl rfl rfl rfl rfl rfl
      have happ := app_one (P := Try.prog) how 3 8 (I 0) ((nth now i ||| nth one j : Nat) : Int) isz3 ibytes3 izero3 rfl (by simp; omega) (by simp; omega)
      simp (disch := first | (simp only [go_sem, Bool.and_self, eq_self]; done) | omega | (simp only [List.length_cons, List.length_nil]; omega)) only [go_sem, ↓reduceIte, Nat.reduceEqDiff, Nat.reduceAdd, Nat.reduceMul, Nat.reduceSub, Int.reduceToNat, s5, s6, s7, s8, s10, s9, s11, honl, hnnl, hin, hjo, hns, hno, hor, hall, hbs, happ]
      rw [ForK_normal]
      refine ⟨hjo, by simp (disch := first | (simp only [go_sem, Bool.and_self, eq_self]; done) | omega | (simp only [List.length_cons, List.length_nil]; omega)) only [go_sem, ↓reduceIte, Nat.reduceEqDiff, Nat.reduceAdd, Nat.reduceMul, Nat.reduceSub, Int.reduceToNat, s11], by simp (disch := first | (simp only [go_sem, Bool.and_self, eq_self]; done) | omega | (simp only [List.length_cons, List.length_nil]; omega)) only [go_sem, ↓reduceIte, Nat.reduceEqDiff, Nat.reduceAdd, Nat.reduceMul, Nat.reduceSub, Int.reduceToNat, s5], by simp (disch := first | (simp only [go_sem, Bool.and_self, eq_self]; done) | omega | (simp only [List.length_cons, List.length_nil]; omega)) only [go_sem, ↓reduceIte, Nat.reduceEqDiff, Nat.reduceAdd, Nat.reduceMul, Nat.reduceSub, Int.reduceToNat, s6], by simp (disch := first | (simp only [go_sem, Bool.and_self, eq_self]; done) | omega | (simp only [List.length_cons, List.length_nil]; omega)) only [go_sem, ↓reduceIte, Nat.reduceEqDiff, Nat.reduceAdd, Nat.reduceMul, Nat.reduceSub, Int.reduceToNat, s7], by simp (disch := first | (simp only [go_sem, Bool.and_self, eq_self]; done) | omega | (simp only [List.length_cons, List.length_nil]; omega)) only [go_sem, ↓reduceIte, Nat.reduceEqDiff, Nat.reduceAdd, Nat.reduceMul, Nat.reduceSub, Int.reduceToNat, s8], by simp (disch := first | (simp only [go_sem, Bool.and_self, eq_self]; done) | omega | (simp only [List.length_cons, List.length_nil]; omega)) only [go_sem, ↓reduceIte, Nat.reduceEqDiff, Nat.reduceAdd, Nat.reduceMul, Nat.reduceSub, Int.reduceToNat, s10], ⟨_, by simp (disch := first | (simp only [go_sem, Bool.and_self, eq_self]; done) | omega | (simp only [List.length_cons, List.length_nil]; omega)) only [go_sem, ↓reduceIte, Nat.reduceEqDiff, Nat.reduceAdd, Nat.reduceMul, Nat.reduceSub, Int.reduceToNat]; rfl, ?_⟩, ?_⟩
      · have e : natL (someF now one i (j + 1)) = natL (someF now one i j) ++ [((nth now i ||| nth one j : Nat) : Int)] := by rw [hsome]; simp
        rw [e]; exact Own.app _ _ _
      · rw [hsome, List.mem_append, List.mem_singleton]
        rintro (h1 | h1)
        · exact hnot h1
        · exact hall h1.symm
  rintro st h ⟨s5, s6, s7, s8, ⟨v, s9, how⟩, hnot⟩
  obtain ⟨h2, z1, _⟩ := sealA_Own how
  have hnx36 := nextF_lt hn36 ho36
  have hnxl : (nextF now one).length ≤ 1099511627776 := by
    rw [nextF_len]
    exact Nat.mul_le_mul (show now.length ≤ 1073741824 by omega) hol
  have kk4 := fun h h' K => k40 (h := h) (h' := h') (K := K) (nextF now one) hnxl hnx36
  simp (disch := first | (simp only [go_sem, Bool.and_self, eq_self]; done) | omega | (simp only [List.length_cons, List.length_nil]; omega)) only [go_sem, ↓reduceIte, Nat.reduceEqDiff, Nat.reduceAdd, Nat.reduceMul, Nat.reduceSub, Int.reduceToNat, s5, s6, s7, s8, s9, z1, kk4]
  rw [For1K_normal]
  refine ⟨by omega, by simp (disch := first | (simp only [go_sem, Bool.and_self, eq_self]; done) | omega | (simp only [List.length_cons, List.length_nil]; omega)) only [go_sem, ↓reduceIte, Nat.reduceEqDiff, Nat.reduceAdd, Nat.reduceMul, Nat.reduceSub, Int.reduceToNat, s8], by simp (disch := first | (simp only [go_sem, Bool.and_self, eq_self]; done) | omega | (simp only [List.length_cons, List.length_nil]; omega)) only [go_sem, ↓reduceIte, Nat.reduceEqDiff, Nat.reduceAdd, Nat.reduceMul, Nat.reduceSub, Int.reduceToNat, s5], by simp (disch := first | (simp only [go_sem, Bool.and_self, eq_self]; done) | omega | (simp only [List.length_cons, List.length_nil]; omega)) only [go_sem, ↓reduceIte, Nat.reduceEqDiff, Nat.reduceAdd, Nat.reduceMul, Nat.reduceSub, Int.reduceToNat, s6], by simp (disch := first | (simp only [go_sem, Bool.and_self, eq_self]; done) | omega | (simp only [List.length_cons, List.length_nil]; omega)) only [go_sem, ↓reduceIte, Nat.reduceEqDiff, Nat.reduceAdd, Nat.reduceMul, Nat.reduceSub, Int.reduceToNat, nowF, hnow], fun j hj => ?_⟩
  rcases Nat.lt_or_ge j c with h1 | h1
  · exact hn j h1
  · rw [show j = c by omega, hnow]; exact hnot
theorem k22 {a : List (List Int)} (f : Pl a) {d : Nat} (hd : 1 ≤ d ∧ d ≤ 4) : ConW Try.prog cfg 22 h (some ([LLI a, I d], h')) K = K (I (refN (maxF (chsF a d a.length [] 0)) (goalM a) 4)) h := ConW_num (f22_con f hd) rfl
end Go.Proofs.Ytkjdnnedncomgaa
