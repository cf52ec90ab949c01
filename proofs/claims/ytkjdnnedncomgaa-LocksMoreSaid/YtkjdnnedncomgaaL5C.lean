/-
  Which keys open which locks: pins, opens, Strangers, and the reference's Pin and Opens.
-/
import Derived.Test.YtkjdnnedncomgaaL5B
set_option linter.unusedVariables false
set_option linter.unusedSimpArgs false
set_option maxRecDepth 10000
namespace Go.Proofs.Ytkjdnnedncomgaa
open Go Go.Am

variable {h h' : Hp} {K : AV → Hp → Prop}

/-- Row i, place j. -/
abbrev at2 (a : List (List Int)) (i j : Nat) : Int := nth (nth a i) j

/-- Some key that is meant to open the lock has this depth in this chamber. -/
def pinB (a cuts : List (List Int)) (lock c : Nat) (d : Int) : Bool := (List.range a.length).any fun i => decide (at2 a i lock = 1) && decide (at2 cuts i c = d)

theorem f36_con (a cuts : List (List Int)) (lock c : Nat) (d : Int) (ha : okLL a) (hl : ∀ i, i < a.length → lock < (nth a i).length) (hc : cuts.length = a.length) (hcc : ∀ i, i < a.length → c < (nth cuts i).length)
    (hb1 : lock ≤ 9223372036854775807) (hb2 : c ≤ 9223372036854775807) : Con Try.prog cfg 36 [LLI a, LLI cuts, I lock, I c, I d] (.bool (pinB a cuts lock c d)) := by
  have hlen := ha.1
  refine Con_intro Try.func36 rfl ok36 (Nat.le_of_ble_eq_true rfl) rfl ?_
  simp only [Try.f36, Option.getD_some, initSt5]
  simp (disch := first | (simp only [go_sem, Bool.and_self, eq_self]; done) | omega | (simp only [List.length_cons, List.length_nil]; omega)) only [go_sem, ↓reduceIte, Nat.reduceEqDiff, Nat.reduceAdd, Nat.reduceMul, Nat.reduceSub, Int.reduceToNat]
  refine WP_for 11 a.length (fun i st h => st 0 = LLI a ∧ st 1 = LLI cuts ∧ st 2 = I lock ∧ st 3 = I c ∧ st 4 = I d ∧ ∀ j, j < i → ¬ (at2 a j lock = 1 ∧ at2 cuts j c = d)) (by simp (disch := first | (simp only [go_sem, Bool.and_self, eq_self]; done) | omega | (simp only [List.length_cons, List.length_nil]; omega)) only [go_sem, ↓reduceIte, Nat.reduceEqDiff, Nat.reduceAdd, Nat.reduceMul, Nat.reduceSub, Int.reduceToNat]) ⟨by simp (disch := first | (simp only [go_sem, Bool.and_self, eq_self]; done) | omega | (simp only [List.length_cons, List.length_nil]; omega)) only [go_sem, ↓reduceIte, Nat.reduceEqDiff, Nat.reduceAdd, Nat.reduceMul, Nat.reduceSub, Int.reduceToNat], by simp (disch := first | (simp only [go_sem, Bool.and_self, eq_self]; done) | omega | (simp only [List.length_cons, List.length_nil]; omega)) only [go_sem, ↓reduceIte, Nat.reduceEqDiff, Nat.reduceAdd, Nat.reduceMul, Nat.reduceSub, Int.reduceToNat], by simp (disch := first | (simp only [go_sem, Bool.and_self, eq_self]; done) | omega | (simp only [List.length_cons, List.length_nil]; omega)) only [go_sem, ↓reduceIte, Nat.reduceEqDiff, Nat.reduceAdd, Nat.reduceMul, Nat.reduceSub, Int.reduceToNat], by simp (disch := first | (simp only [go_sem, Bool.and_self, eq_self]; done) | omega | (simp only [List.length_cons, List.length_nil]; omega)) only [go_sem, ↓reduceIte, Nat.reduceEqDiff, Nat.reduceAdd, Nat.reduceMul, Nat.reduceSub, Int.reduceToNat], by simp (disch := first | (simp only [go_sem, Bool.and_self, eq_self]; done) | omega | (simp only [List.length_cons, List.length_nil]; omega)) only [go_sem, ↓reduceIte, Nat.reduceEqDiff, Nat.reduceAdd, Nat.reduceMul, Nat.reduceSub, Int.reduceToNat], by omega⟩ ?_
  rintro i st h hi s11 ⟨s0, s1, s2, s3, s4, hn⟩
  by_cases hlt : i < a.length
  case neg =>
    have : pinB a cuts lock c d = false := by
      rw [pinB, List.any_eq_false]
      intro j hj
      have := hn j (by have := List.mem_range.1 hj; omega)
      simpa using this
    simp (disch := first | (simp only [go_sem, Bool.and_self, eq_self]; done) | omega | (simp only [List.length_cons, List.length_nil]; omega)) only [go_sem, ↓reduceIte, Nat.reduceEqDiff, Nat.reduceAdd, Nat.reduceMul, Nat.reduceSub, Int.reduceToNat, s11, s0, s1, s2, s3, s4, hlt, this]
  have hli := hl i hlt
  have hci := hcc i hlt
  by_cases h1 : at2 a i lock = 1
  case neg =>
    simp (disch := first | (simp only [go_sem, Bool.and_self, eq_self]; done) | omega | (simp only [List.length_cons, List.length_nil]; omega)) only [go_sem, ↓reduceIte, Nat.reduceEqDiff, Nat.reduceAdd, Nat.reduceMul, Nat.reduceSub, Int.reduceToNat, s11, s0, s1, s2, s3, s4, hlt, h1]
    rw [ForK_normal]
    refine ⟨hlt, by simp (disch := first | (simp only [go_sem, Bool.and_self, eq_self]; done) | omega | (simp only [List.length_cons, List.length_nil]; omega)) only [go_sem, ↓reduceIte, Nat.reduceEqDiff, Nat.reduceAdd, Nat.reduceMul, Nat.reduceSub, Int.reduceToNat, s11], by simp (disch := first | (simp only [go_sem, Bool.and_self, eq_self]; done) | omega | (simp only [List.length_cons, List.length_nil]; omega)) only [go_sem, ↓reduceIte, Nat.reduceEqDiff, Nat.reduceAdd, Nat.reduceMul, Nat.reduceSub, Int.reduceToNat, s0], by simp (disch := first | (simp only [go_sem, Bool.and_self, eq_self]; done) | omega | (simp only [List.length_cons, List.length_nil]; omega)) only [go_sem, ↓reduceIte, Nat.reduceEqDiff, Nat.reduceAdd, Nat.reduceMul, Nat.reduceSub, Int.reduceToNat, s1], by simp (disch := first | (simp only [go_sem, Bool.and_self, eq_self]; done) | omega | (simp only [List.length_cons, List.length_nil]; omega)) only [go_sem, ↓reduceIte, Nat.reduceEqDiff, Nat.reduceAdd, Nat.reduceMul, Nat.reduceSub, Int.reduceToNat, s2], by simp (disch := first | (simp only [go_sem, Bool.and_self, eq_self]; done) | omega | (simp only [List.length_cons, List.length_nil]; omega)) only [go_sem, ↓reduceIte, Nat.reduceEqDiff, Nat.reduceAdd, Nat.reduceMul, Nat.reduceSub, Int.reduceToNat, s3], by simp (disch := first | (simp only [go_sem, Bool.and_self, eq_self]; done) | omega | (simp only [List.length_cons, List.length_nil]; omega)) only [go_sem, ↓reduceIte, Nat.reduceEqDiff, Nat.reduceAdd, Nat.reduceMul, Nat.reduceSub, Int.reduceToNat, s4], fun j hj => ?_⟩
    rcases Nat.lt_or_ge j i with hj' | hj'
    · exact hn j hj'
    · rw [show j = i by omega]; exact fun h => h1 h.1
  by_cases h2 : at2 cuts i c = d
  case neg =>
    simp (disch := first | (simp only [go_sem, Bool.and_self, eq_self]; done) | omega | (simp only [List.length_cons, List.length_nil]; omega)) only [go_sem, ↓reduceIte, Nat.reduceEqDiff, Nat.reduceAdd, Nat.reduceMul, Nat.reduceSub, Int.reduceToNat, s11, s0, s1, s2, s3, s4, hlt, h1, h2]
    rw [ForK_normal]
    refine ⟨hlt, by simp (disch := first | (simp only [go_sem, Bool.and_self, eq_self]; done) | omega | (simp only [List.length_cons, List.length_nil]; omega)) only [go_sem, ↓reduceIte, Nat.reduceEqDiff, Nat.reduceAdd, Nat.reduceMul, Nat.reduceSub, Int.reduceToNat, s11], by simp (disch := first | (simp only [go_sem, Bool.and_self, eq_self]; done) | omega | (simp only [List.length_cons, List.length_nil]; omega)) only [go_sem, ↓reduceIte, Nat.reduceEqDiff, Nat.reduceAdd, Nat.reduceMul, Nat.reduceSub, Int.reduceToNat, s0], by simp (disch := first | (simp only [go_sem, Bool.and_self, eq_self]; done) | omega | (simp only [List.length_cons, List.length_nil]; omega)) only [go_sem, ↓reduceIte, Nat.reduceEqDiff, Nat.reduceAdd, Nat.reduceMul, Nat.reduceSub, Int.reduceToNat, s1], by simp (disch := first | (simp only [go_sem, Bool.and_self, eq_self]; done) | omega | (simp only [List.length_cons, List.length_nil]; omega)) only [go_sem, ↓reduceIte, Nat.reduceEqDiff, Nat.reduceAdd, Nat.reduceMul, Nat.reduceSub, Int.reduceToNat, s2], by simp (disch := first | (simp only [go_sem, Bool.and_self, eq_self]; done) | omega | (simp only [List.length_cons, List.length_nil]; omega)) only [go_sem, ↓reduceIte, Nat.reduceEqDiff, Nat.reduceAdd, Nat.reduceMul, Nat.reduceSub, Int.reduceToNat, s3], by simp (disch := first | (simp only [go_sem, Bool.and_self, eq_self]; done) | omega | (simp only [List.length_cons, List.length_nil]; omega)) only [go_sem, ↓reduceIte, Nat.reduceEqDiff, Nat.reduceAdd, Nat.reduceMul, Nat.reduceSub, Int.reduceToNat, s4], fun j hj => ?_⟩
    rcases Nat.lt_or_ge j i with hj' | hj'
    · exact hn j hj'
    · rw [show j = i by omega]; exact fun h => h2 h.2
  have : pinB a cuts lock c d = true := by
    rw [pinB, List.any_eq_true]
    exact ⟨i, List.mem_range.2 hlt, by simp [h1, h2]⟩
  simp (disch := first | (simp only [go_sem, Bool.and_self, eq_self]; done) | omega | (simp only [List.length_cons, List.length_nil]; omega)) only [go_sem, ↓reduceIte, Nat.reduceEqDiff, Nat.reduceAdd, Nat.reduceMul, Nat.reduceSub, Int.reduceToNat, s11, s0, s1, s2, s3, s4, hlt, h1, h2, this]
theorem k36 (a cuts : List (List Int)) (lock c : Nat) (d : Int) (ha : okLL a) (hl : ∀ i, i < a.length → lock < (nth a i).length) (hc : cuts.length = a.length) (hcc : ∀ i, i < a.length → c < (nth cuts i).length)
    (hb1 : lock ≤ 9223372036854775807) (hb2 : c ≤ 9223372036854775807) : ConW Try.prog cfg 36 h (some ([LLI a, LLI cuts, I lock, I c, I d], h')) K = K (.bool (pinB a cuts lock c d)) h := ConW_num (f36_con a cuts lock c d ha hl hc hcc hb1 hb2) rfl

/-- A key with these depths opens the lock. -/
def opensB (a cuts : List (List Int)) (key : List Int) (lock : Nat) : Bool := (List.range key.length).all fun c => pinB a cuts lock c (nth key c)

theorem f15_con (a cuts : List (List Int)) (key : List Int) (lock : Nat) (ha : okLL a) (hl : ∀ i, i < a.length → lock < (nth a i).length) (hc : cuts.length = a.length) (hcc : ∀ i, i < a.length → key.length ≤ (nth cuts i).length)
    (hb1 : lock ≤ 9223372036854775807) (hb2 : key.length ≤ 9223372036854775807) : Con Try.prog cfg 15 [LLI a, LLI cuts, LI key, I lock] (.bool (opensB a cuts key lock)) := by
  refine Con_intro Try.func15 rfl ok15 (Nat.le_of_ble_eq_true rfl) rfl ?_
  simp only [Try.f15, Option.getD_some, initSt4]
  simp (disch := first | (simp only [go_sem, Bool.and_self, eq_self]; done) | omega | (simp only [List.length_cons, List.length_nil]; omega)) only [go_sem, ↓reduceIte, Nat.reduceEqDiff, Nat.reduceAdd, Nat.reduceMul, Nat.reduceSub, Int.reduceToNat]
  refine WP_for 9 key.length (fun i st h => st 0 = LLI a ∧ st 1 = LLI cuts ∧ st 2 = LI key ∧ st 3 = I lock ∧ ∀ j, j < i → pinB a cuts lock j (nth key j) = true) (by simp (disch := first | (simp only [go_sem, Bool.and_self, eq_self]; done) | omega | (simp only [List.length_cons, List.length_nil]; omega)) only [go_sem, ↓reduceIte, Nat.reduceEqDiff, Nat.reduceAdd, Nat.reduceMul, Nat.reduceSub, Int.reduceToNat]) ⟨by simp (disch := first | (simp only [go_sem, Bool.and_self, eq_self]; done) | omega | (simp only [List.length_cons, List.length_nil]; omega)) only [go_sem, ↓reduceIte, Nat.reduceEqDiff, Nat.reduceAdd, Nat.reduceMul, Nat.reduceSub, Int.reduceToNat], by simp (disch := first | (simp only [go_sem, Bool.and_self, eq_self]; done) | omega | (simp only [List.length_cons, List.length_nil]; omega)) only [go_sem, ↓reduceIte, Nat.reduceEqDiff, Nat.reduceAdd, Nat.reduceMul, Nat.reduceSub, Int.reduceToNat], by simp (disch := first | (simp only [go_sem, Bool.and_self, eq_self]; done) | omega | (simp only [List.length_cons, List.length_nil]; omega)) only [go_sem, ↓reduceIte, Nat.reduceEqDiff, Nat.reduceAdd, Nat.reduceMul, Nat.reduceSub, Int.reduceToNat], by simp (disch := first | (simp only [go_sem, Bool.and_self, eq_self]; done) | omega | (simp only [List.length_cons, List.length_nil]; omega)) only [go_sem, ↓reduceIte, Nat.reduceEqDiff, Nat.reduceAdd, Nat.reduceMul, Nat.reduceSub, Int.reduceToNat], by omega⟩ ?_
  rintro i st h hi s9 ⟨s0, s1, s2, s3, hn⟩
  by_cases hlt : i < key.length
  case neg =>
    have : opensB a cuts key lock = true := by
      rw [opensB, List.all_eq_true]
      intro j hj
      exact hn j (by have := List.mem_range.1 hj; omega)
    simp (disch := first | (simp only [go_sem, Bool.and_self, eq_self]; done) | omega | (simp only [List.length_cons, List.length_nil]; omega)) only [go_sem, ↓reduceIte, Nat.reduceEqDiff, Nat.reduceAdd, Nat.reduceMul, Nat.reduceSub, Int.reduceToNat, s9, s0, s1, s2, s3, hlt, this]
  have kk := fun h h' K => k36 (h := h) (h' := h') (K := K) a cuts lock i (nth key i) ha hl hc (fun j hj => by have := hcc j hj; omega) hb1 (by omega)
  cases hp : pinB a cuts lock i (nth key i) with
  | false =>
    have : opensB a cuts key lock = false := by
      rw [opensB, List.all_eq_false]
      exact ⟨i, List.mem_range.2 hlt, by simp [hp]⟩
    simp (disch := first | (simp only [go_sem, Bool.and_self, eq_self]; done) | omega | (simp only [List.length_cons, List.length_nil]; omega)) only [go_sem, ↓reduceIte, Nat.reduceEqDiff, Nat.reduceAdd, Nat.reduceMul, Nat.reduceSub, Int.reduceToNat, s9, s0, s1, s2, s3, hlt, kk, hp, this]
  | true =>
    simp (disch := first | (simp only [go_sem, Bool.and_self, eq_self]; done) | omega | (simp only [List.length_cons, List.length_nil]; omega)) only [go_sem, ↓reduceIte, Nat.reduceEqDiff, Nat.reduceAdd, Nat.reduceMul, Nat.reduceSub, Int.reduceToNat, s9, s0, s1, s2, s3, hlt, kk, hp]
    rw [ForK_normal]
    refine ⟨hlt, by simp (disch := first | (simp only [go_sem, Bool.and_self, eq_self]; done) | omega | (simp only [List.length_cons, List.length_nil]; omega)) only [go_sem, ↓reduceIte, Nat.reduceEqDiff, Nat.reduceAdd, Nat.reduceMul, Nat.reduceSub, Int.reduceToNat, s9], by simp (disch := first | (simp only [go_sem, Bool.and_self, eq_self]; done) | omega | (simp only [List.length_cons, List.length_nil]; omega)) only [go_sem, ↓reduceIte, Nat.reduceEqDiff, Nat.reduceAdd, Nat.reduceMul, Nat.reduceSub, Int.reduceToNat, s0], by simp (disch := first | (simp only [go_sem, Bool.and_self, eq_self]; done) | omega | (simp only [List.length_cons, List.length_nil]; omega)) only [go_sem, ↓reduceIte, Nat.reduceEqDiff, Nat.reduceAdd, Nat.reduceMul, Nat.reduceSub, Int.reduceToNat, s1], by simp (disch := first | (simp only [go_sem, Bool.and_self, eq_self]; done) | omega | (simp only [List.length_cons, List.length_nil]; omega)) only [go_sem, ↓reduceIte, Nat.reduceEqDiff, Nat.reduceAdd, Nat.reduceMul, Nat.reduceSub, Int.reduceToNat, s2], by simp (disch := first | (simp only [go_sem, Bool.and_self, eq_self]; done) | omega | (simp only [List.length_cons, List.length_nil]; omega)) only [go_sem, ↓reduceIte, Nat.reduceEqDiff, Nat.reduceAdd, Nat.reduceMul, Nat.reduceSub, Int.reduceToNat, s3], fun j hj => ?_⟩
    rcases Nat.lt_or_ge j i with hj' | hj'
    · exact hn j hj'
    · rw [show j = i by omega]; exact hp
theorem k15 (a cuts : List (List Int)) (key : List Int) (lock : Nat) (ha : okLL a) (hl : ∀ i, i < a.length → lock < (nth a i).length) (hc : cuts.length = a.length) (hcc : ∀ i, i < a.length → key.length ≤ (nth cuts i).length)
    (hb1 : lock ≤ 9223372036854775807) (hb2 : key.length ≤ 9223372036854775807) : ConW Try.prog cfg 15 h (some ([LLI a, LLI cuts, LI key, I lock], h')) K = K (.bool (opensB a cuts key lock)) h := ConW_num (f15_con a cuts key lock ha hl hc hcc hb1 hb2) rfl
end Go.Proofs.Ytkjdnnedncomgaa
