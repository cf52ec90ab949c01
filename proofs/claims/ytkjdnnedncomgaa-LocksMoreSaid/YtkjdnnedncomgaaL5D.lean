/-
  The pins of a lock as bits, what opens it, how many strangers do.
-/
import Derived.Test.YtkjdnnedncomgaaL5C
set_option linter.unusedVariables false
set_option linter.unusedSimpArgs false
set_option maxRecDepth 10000
namespace Go.Proofs.Ytkjdnnedncomgaa
open Go Go.Am

variable {h h' : Hp} {K : AV → Hp → Prop}

/-- An access plan and cuts for it. -/
structure Fit (a cuts : List (List Int)) (d : Int) : Prop where
  keys : 1 ≤ a.length ∧ a.length ≤ 6
  locks : 1 ≤ (nth a 0).length ∧ (nth a 0).length ≤ 6
  row : ∀ i, i < a.length → (nth a i).length = (nth a 0).length
  bit : ∀ i j, i < a.length → j < (nth a 0).length → at2 a i j = 0 ∨ at2 a i j = 1
  depth : 1 ≤ d ∧ d ≤ 4
  same : cuts.length = a.length
  cham : 1 ≤ (nth cuts 0).length ∧ (nth cuts 0).length ≤ 4
  crow : ∀ i, i < a.length → (nth cuts i).length = (nth cuts 0).length
  cut : ∀ i c, i < a.length → c < (nth cuts 0).length → 1 ≤ at2 cuts i c ∧ at2 cuts i c ≤ d

theorem all_nth {α : Type} [Inhabited α] {p : α → Bool} {xs : List α} (h : xs.all p = true) {i : Nat} (hi : i < xs.length) : p (nth xs i) = true := List.all_eq_true.1 h _ (nth_mem hi)

theorem Fit.of {a cuts : List (List Int)} {d : Int} (h1 : isPlanB a = true) (h2 : areCutsB cuts a.length d = true) : Fit a cuts d := by
  simp only [isPlanB, areCutsB, Bool.and_eq_true, decide_eq_true_eq] at h1 h2
  obtain ⟨⟨k1, k2⟩, k3⟩ := h1
  obtain ⟨⟨⟨c1, c2⟩, c3⟩, c4⟩ := h2
  have hl : cuts.length = a.length := by omega
  refine ⟨k1, k2, fun i hi => ?_, fun i j hi hj => ?_, c1, hl, c3, fun i hi => ?_, fun i c hi hc => ?_⟩
  · have := all_nth k3 hi
    simp only [Bool.and_eq_true, decide_eq_true_eq] at this
    exact this.1
  · have := all_nth k3 hi
    simp only [Bool.and_eq_true, decide_eq_true_eq] at this
    have := all_nth this.2 (i := j) (by omega)
    simp only [decide_eq_true_eq] at this
    show nth (nth a i) j = 0 ∨ nth (nth a i) j = 1
    omega
  · have := all_nth c4 (i := i) (by omega)
    simp only [Bool.and_eq_true, decide_eq_true_eq] at this
    exact this.1
  · have := all_nth c4 (i := i) (by omega)
    simp only [Bool.and_eq_true, decide_eq_true_eq] at this
    have := all_nth this.2 (i := c) (by omega)
    simpa only [decide_eq_true_eq] using this

theorem Fit.okA {a cuts : List (List Int)} {d : Int} (f : Fit a cuts d) : okLL a := by
  refine ⟨by have := f.keys; omega, fun r hr => ?_⟩
  obtain ⟨i, hi, rfl⟩ := List.getElem_of_mem hr
  have := f.row i hi
  rw [nth_getElem hi] at this
  have := f.locks
  omega
theorem Fit.okC {a cuts : List (List Int)} {d : Int} (f : Fit a cuts d) : okLL cuts := by
  have hs := f.same
  refine ⟨by have := f.keys; omega, fun r hr => ?_⟩
  obtain ⟨i, hi, rfl⟩ := List.getElem_of_mem hr
  have := f.crow i (by omega)
  rw [nth_getElem hi] at this
  have := f.cham
  omega

/-- The pins of a lock in one chamber, by the first n keys, as bits. -/
def maskN (a cuts : List (List Int)) (lock c : Nat) : Nat → Nat
  | 0 => 0
  | n + 1 => if at2 a n lock = 0 then maskN a cuts lock c n else maskN a cuts lock c n ||| 2 ^ (at2 cuts n c).toNat

theorem maskN_lt {a cuts : List (List Int)} {d : Int} (f : Fit a cuts d) {lock c : Nat} (hc : c < (nth cuts 0).length) : ∀ {n : Nat}, n ≤ a.length → maskN a cuts lock c n < 2 ^ 5
  | 0, _ => by simp [maskN]
  | n + 1, hn => by
    have ih := maskN_lt f (lock := lock) hc (n := n) (by omega)
    rw [maskN]
    split
    · exact ih
    · have := f.cut n c (by omega) hc
      have := f.depth
      exact Nat.or_lt_two_pow ih (Nat.pow_lt_pow_right (by omega) (by omega))

theorem maskN_bit {a cuts : List (List Int)} {d : Int} (f : Fit a cuts d) {lock c : Nat} (hl : lock < (nth a 0).length) (hc : c < (nth cuts 0).length) (e : Nat) : (maskN a cuts lock c a.length).testBit e = pinB a cuts lock c e := by
  have : ∀ n, n ≤ a.length → (maskN a cuts lock c n).testBit e = (List.range n).any fun i => decide (at2 a i lock = 1) && decide (at2 cuts i c = e) := by
    intro n
    induction n with
    | zero => intro _; simp [maskN]
    | succ n ih =>
      intro hn
      rw [List.range_succ, List.any_append, ← ih (by omega)]
      have hb := f.bit n lock (by omega) hl
      have hcu := f.cut n c (by omega) hc
      simp only [List.any_cons, List.any_nil, Bool.or_false, maskN]
      split
      · rename_i h0
        simp [h0]
      · rename_i h0
        have h1 : at2 a n lock = 1 := by omega
        rw [Nat.testBit_or, Nat.testBit_two_pow, h1]
        simp only [decide_true, Bool.true_and]
        congr 1
        rw [decide_eq_decide]
        omega
  exact this _ (Nat.le_refl _)

/-- The masks of all chambers, by the first n keys, and of the first j chambers by one key more. -/
def masks (a cuts : List (List Int)) (lock n j : Nat) : List Int := (List.range (nth cuts 0).length).map fun c => ((if c < j then maskN a cuts lock c (n + 1) else maskN a cuts lock c n : Nat) : Int)
theorem masks_len (a cuts : List (List Int)) (lock n j : Nat) : (masks a cuts lock n j).length = (nth cuts 0).length := by simp [masks]
theorem masks_nth {a cuts : List (List Int)} {lock n j c : Nat} (hc : c < (nth cuts 0).length) : nth (masks a cuts lock n j) c = ((if c < j then maskN a cuts lock c (n + 1) else maskN a cuts lock c n : Nat) : Int) := by
  rw [masks, nth_map_range _ _ _ hc]
theorem masks_set {a cuts : List (List Int)} {lock n j : Nat} (hj : j < (nth cuts 0).length) : (masks a cuts lock n j).set j (maskN a cuts lock j (n + 1) : Nat) = masks a cuts lock n (j + 1) := by
  refine list_ext_nth (by simp [masks_len]) fun c hc => ?_
  rw [List.length_set, masks_len] at hc
  rw [nth_set _ _ _ _ (by rw [masks_len]; exact hj), masks_nth hc, masks_nth hc]
  by_cases h : j = c
  · subst h; simp
  · rw [if_neg h]
    by_cases h2 : c < j
    · rw [if_pos h2, if_pos (by omega)]
    · rw [if_neg h2, if_neg (by omega)]
theorem masks_skip {a cuts : List (List Int)} {lock n : Nat} (h0 : at2 a n lock = 0) : masks a cuts lock n 0 = masks a cuts lock (n + 1) 0 := by
  refine list_ext_nth (by simp [masks_len]) fun c hc => ?_
  rw [masks_len] at hc
  rw [masks_nth hc, masks_nth hc]
  simp only [Nat.not_lt_zero, if_false, maskN, if_pos h0]
theorem masks_next {a cuts : List (List Int)} {lock n : Nat} : masks a cuts lock n (nth cuts 0).length = masks a cuts lock (n + 1) 0 := by
  refine list_ext_nth (by simp [masks_len]) fun c hc => ?_
  rw [masks_len] at hc
  rw [masks_nth hc, masks_nth hc, if_pos hc]
  simp
theorem masks_zero {a cuts : List (List Int)} {lock : Nat} : masks a cuts lock 0 0 = List.replicate (nth cuts 0).length (0 : Int) := by
  refine list_ext_nth (by simp [masks_len]) fun c hc => ?_
  rw [masks_len] at hc
  rw [masks_nth hc, nth_replicate _ _ _ hc]
  simp [maskN]

theorem f35_con (a cuts : List (List Int)) (d : Int) (f : Fit a cuts d) (lock : Nat) (hl : lock < (nth a 0).length) : Con Try.prog cfg 35 [LLI a, LLI cuts, I lock] (LI (masks a cuts lock a.length 0)) := by
  have hk := f.keys
  have hs := f.same
  have hlo := f.locks
  have hch := f.cham
  refine Con_intro Try.func35 rfl ok35 (Nat.le_of_ble_eq_true rfl) rfl ?_
  simp only [Try.f35, Option.getD_some, initSt3]
  have hmk := makeB_int (P := Try.prog) (h := Hp.empty) 3 ((nth cuts 0).length : Int) isz3 ibytes3 izero3 (by omega) (by omega)
  simp (disch := first | (simp only [go_sem, Bool.and_self, eq_self]; done) | omega | (simp only [List.length_cons, List.length_nil]; omega)) only [go_sem, ↓reduceIte, Nat.reduceEqDiff, Nat.reduceAdd, Nat.reduceMul, Nat.reduceSub, Int.reduceToNat, hmk]
  refine WP_for 19 a.length (fun i st h => st 0 = LLI a ∧ st 1 = LLI cuts ∧ st 2 = I lock ∧ st 7 = .sl 0 0 (nth cuts 0).length 1 ∧ st 17 = LLI cuts ∧ st 18 = I cuts.length ∧ h.nx = 1 ∧ h.bl 0 = some (.cells false true ((masks a cuts lock i 0).flatMap (e1 I))))
    (by simp (disch := first | (simp only [go_sem, Bool.and_self, eq_self]; done) | omega | (simp only [List.length_cons, List.length_nil]; omega)) only [go_sem, ↓reduceIte, Nat.reduceEqDiff, Nat.reduceAdd, Nat.reduceMul, Nat.reduceSub, Int.reduceToNat]) ⟨by simp (disch := first | (simp only [go_sem, Bool.and_self, eq_self]; done) | omega | (simp only [List.length_cons, List.length_nil]; omega)) only [go_sem, ↓reduceIte, Nat.reduceEqDiff, Nat.reduceAdd, Nat.reduceMul, Nat.reduceSub, Int.reduceToNat], by simp (disch := first | (simp only [go_sem, Bool.and_self, eq_self]; done) | omega | (simp only [List.length_cons, List.length_nil]; omega)) only [go_sem, ↓reduceIte, Nat.reduceEqDiff, Nat.reduceAdd, Nat.reduceMul, Nat.reduceSub, Int.reduceToNat], by simp (disch := first | (simp only [go_sem, Bool.and_self, eq_self]; done) | omega | (simp only [List.length_cons, List.length_nil]; omega)) only [go_sem, ↓reduceIte, Nat.reduceEqDiff, Nat.reduceAdd, Nat.reduceMul, Nat.reduceSub, Int.reduceToNat], by simp (disch := first | (simp only [go_sem, Bool.and_self, eq_self]; done) | omega | (simp only [List.length_cons, List.length_nil]; omega)) only [go_sem, ↓reduceIte, Nat.reduceEqDiff, Nat.reduceAdd, Nat.reduceMul, Nat.reduceSub, Int.reduceToNat], by simp (disch := first | (simp only [go_sem, Bool.and_self, eq_self]; done) | omega | (simp only [List.length_cons, List.length_nil]; omega)) only [go_sem, ↓reduceIte, Nat.reduceEqDiff, Nat.reduceAdd, Nat.reduceMul, Nat.reduceSub, Int.reduceToNat], by simp (disch := first | (simp only [go_sem, Bool.and_self, eq_self]; done) | omega | (simp only [List.length_cons, List.length_nil]; omega)) only [go_sem, ↓reduceIte, Nat.reduceEqDiff, Nat.reduceAdd, Nat.reduceMul, Nat.reduceSub, Int.reduceToNat], by simp (disch := first | (simp only [go_sem, Bool.and_self, eq_self]; done) | omega | (simp only [List.length_cons, List.length_nil]; omega)) only [go_sem, ↓reduceIte, Nat.reduceEqDiff, Nat.reduceAdd, Nat.reduceMul, Nat.reduceSub, Int.reduceToNat], by simp (disch := first | (simp only [go_sem, Bool.and_self, eq_self]; done) | omega | (simp only [List.length_cons, List.length_nil]; omega)) only [go_sem, ↓reduceIte, Nat.reduceEqDiff, Nat.reduceAdd, Nat.reduceMul, Nat.reduceSub, Int.reduceToNat, masks_zero]⟩ ?_
  rintro i st h hi s19 ⟨s0, s1, s2, s7, s17, s18, hnx, hbl⟩
  by_cases hlt : i < a.length
  case neg =>
    have hia : i = a.length := by omega
    subst hia
    simp (disch := first | (simp only [go_sem, Bool.and_self, eq_self]; done) | omega | (simp only [List.length_cons, List.length_nil]; omega)) only [go_sem, ↓reduceIte, Nat.reduceEqDiff, Nat.reduceAdd, Nat.reduceMul, Nat.reduceSub, Int.reduceToNat, s19, s0, s1, s2, s7, s17, s18, hs, hlt]
    exact export_Own (f := e1 I) 27 (.inr ⟨0, by rw [masks_len], by omega, hbl⟩)
  have hltc : i < cuts.length := by omega
  have hrow := f.row i hlt
  have hcrow := f.crow i hlt
  by_cases h0 : at2 a i lock = 0
  · simp (disch := first | (simp only [go_sem, Bool.and_self, eq_self]; done) | omega | (simp only [List.length_cons, List.length_nil]; omega)) only [go_sem, ↓reduceIte, Nat.reduceEqDiff, Nat.reduceAdd, Nat.reduceMul, Nat.reduceSub, Int.reduceToNat, s19, s0, s1, s2, s7, s17, s18, hltc, h0]
    rw [ForK_normal]
    refine ⟨hlt, by simp (disch := first | (simp only [go_sem, Bool.and_self, eq_self]; done) | omega | (simp only [List.length_cons, List.length_nil]; omega)) only [go_sem, ↓reduceIte, Nat.reduceEqDiff, Nat.reduceAdd, Nat.reduceMul, Nat.reduceSub, Int.reduceToNat, s19], by simp (disch := first | (simp only [go_sem, Bool.and_self, eq_self]; done) | omega | (simp only [List.length_cons, List.length_nil]; omega)) only [go_sem, ↓reduceIte, Nat.reduceEqDiff, Nat.reduceAdd, Nat.reduceMul, Nat.reduceSub, Int.reduceToNat, s0], by simp (disch := first | (simp only [go_sem, Bool.and_self, eq_self]; done) | omega | (simp only [List.length_cons, List.length_nil]; omega)) only [go_sem, ↓reduceIte, Nat.reduceEqDiff, Nat.reduceAdd, Nat.reduceMul, Nat.reduceSub, Int.reduceToNat, s1], by simp (disch := first | (simp only [go_sem, Bool.and_self, eq_self]; done) | omega | (simp only [List.length_cons, List.length_nil]; omega)) only [go_sem, ↓reduceIte, Nat.reduceEqDiff, Nat.reduceAdd, Nat.reduceMul, Nat.reduceSub, Int.reduceToNat, s2], by simp (disch := first | (simp only [go_sem, Bool.and_self, eq_self]; done) | omega | (simp only [List.length_cons, List.length_nil]; omega)) only [go_sem, ↓reduceIte, Nat.reduceEqDiff, Nat.reduceAdd, Nat.reduceMul, Nat.reduceSub, Int.reduceToNat, s7], by simp (disch := first | (simp only [go_sem, Bool.and_self, eq_self]; done) | omega | (simp only [List.length_cons, List.length_nil]; omega)) only [go_sem, ↓reduceIte, Nat.reduceEqDiff, Nat.reduceAdd, Nat.reduceMul, Nat.reduceSub, Int.reduceToNat, s17], by simp (disch := first | (simp only [go_sem, Bool.and_self, eq_self]; done) | omega | (simp only [List.length_cons, List.length_nil]; omega)) only [go_sem, ↓reduceIte, Nat.reduceEqDiff, Nat.reduceAdd, Nat.reduceMul, Nat.reduceSub, Int.reduceToNat, s18], hnx, ?_⟩
    rw [← masks_skip h0]; exact hbl
  simp (disch := first | (simp only [go_sem, Bool.and_self, eq_self]; done) | omega | (simp only [List.length_cons, List.length_nil]; omega)) only [go_sem, ↓reduceIte, Nat.reduceEqDiff, Nat.reduceAdd, Nat.reduceMul, Nat.reduceSub, Int.reduceToNat, s19, s0, s1, s2, s7, s17, s18, hltc, h0]
  refine WP_for 34 (nth cuts 0).length (fun j st h => st 0 = LLI a ∧ st 1 = LLI cuts ∧ st 2 = I lock ∧ st 7 = .sl 0 0 (nth cuts 0).length 1 ∧ st 17 = LLI cuts ∧ st 18 = I cuts.length ∧ st 19 = I i ∧ st 32 = LI (nth cuts i) ∧ st 33 = I (nth cuts i).length ∧ h.nx = 1 ∧ h.bl 0 = some (.cells false true ((masks a cuts lock i j).flatMap (e1 I))))
    (by simp (disch := first | (simp only [go_sem, Bool.and_self, eq_self]; done) | omega | (simp only [List.length_cons, List.length_nil]; omega)) only [go_sem, ↓reduceIte, Nat.reduceEqDiff, Nat.reduceAdd, Nat.reduceMul, Nat.reduceSub, Int.reduceToNat]) ⟨by simp (disch := first | (simp only [go_sem, Bool.and_self, eq_self]; done) | omega | (simp only [List.length_cons, List.length_nil]; omega)) only [go_sem, ↓reduceIte, Nat.reduceEqDiff, Nat.reduceAdd, Nat.reduceMul, Nat.reduceSub, Int.reduceToNat, s0], by simp (disch := first | (simp only [go_sem, Bool.and_self, eq_self]; done) | omega | (simp only [List.length_cons, List.length_nil]; omega)) only [go_sem, ↓reduceIte, Nat.reduceEqDiff, Nat.reduceAdd, Nat.reduceMul, Nat.reduceSub, Int.reduceToNat, s1], by simp (disch := first | (simp only [go_sem, Bool.and_self, eq_self]; done) | omega | (simp only [List.length_cons, List.length_nil]; omega)) only [go_sem, ↓reduceIte, Nat.reduceEqDiff, Nat.reduceAdd, Nat.reduceMul, Nat.reduceSub, Int.reduceToNat, s2], by simp (disch := first | (simp only [go_sem, Bool.and_self, eq_self]; done) | omega | (simp only [List.length_cons, List.length_nil]; omega)) only [go_sem, ↓reduceIte, Nat.reduceEqDiff, Nat.reduceAdd, Nat.reduceMul, Nat.reduceSub, Int.reduceToNat, s7], by simp (disch := first | (simp only [go_sem, Bool.and_self, eq_self]; done) | omega | (simp only [List.length_cons, List.length_nil]; omega)) only [go_sem, ↓reduceIte, Nat.reduceEqDiff, Nat.reduceAdd, Nat.reduceMul, Nat.reduceSub, Int.reduceToNat, s17], by simp (disch := first | (simp only [go_sem, Bool.and_self, eq_self]; done) | omega | (simp only [List.length_cons, List.length_nil]; omega)) only [go_sem, ↓reduceIte, Nat.reduceEqDiff, Nat.reduceAdd, Nat.reduceMul, Nat.reduceSub, Int.reduceToNat, s18], by simp (disch := first | (simp only [go_sem, Bool.and_self, eq_self]; done) | omega | (simp only [List.length_cons, List.length_nil]; omega)) only [go_sem, ↓reduceIte, Nat.reduceEqDiff, Nat.reduceAdd, Nat.reduceMul, Nat.reduceSub, Int.reduceToNat, s19], by simp (disch := first | (simp only [go_sem, Bool.and_self, eq_self]; done) | omega | (simp only [List.length_cons, List.length_nil]; omega)) only [go_sem, ↓reduceIte, Nat.reduceEqDiff, Nat.reduceAdd, Nat.reduceMul, Nat.reduceSub, Int.reduceToNat], by simp (disch := first | (simp only [go_sem, Bool.and_self, eq_self]; done) | omega | (simp only [List.length_cons, List.length_nil]; omega)) only [go_sem, ↓reduceIte, Nat.reduceEqDiff, Nat.reduceAdd, Nat.reduceMul, Nat.reduceSub, Int.reduceToNat], by simp (disch := first | (simp only [go_sem, Bool.and_self, eq_self]; done) | omega | (simp only [List.length_cons, List.length_nil]; omega)) only [go_sem, ↓reduceIte, Nat.reduceEqDiff, Nat.reduceAdd, Nat.reduceMul, Nat.reduceSub, Int.reduceToNat, hnx], by simp (disch := first | (simp only [go_sem, Bool.and_self, eq_self]; done) | omega | (simp only [List.length_cons, List.length_nil]; omega)) only [go_sem, ↓reduceIte, Nat.reduceEqDiff, Nat.reduceAdd, Nat.reduceMul, Nat.reduceSub, Int.reduceToNat, hbl]⟩ ?_
  rintro j st h hj s34 ⟨s0, s1, s2, s7, s17, s18, s19, s32, s33, hnx, hbl⟩
  by_cases hjt : j < (nth cuts 0).length
  case neg =>
    have hja : j = (nth cuts 0).length := by omega
    subst hja
    simp (disch := first | (simp only [go_sem, Bool.and_self, eq_self]; done) | omega | (simp only [List.length_cons, List.length_nil]; omega)) only [go_sem, ↓reduceIte, Nat.reduceEqDiff, Nat.reduceAdd, Nat.reduceMul, Nat.reduceSub, Int.reduceToNat, s19, s0, s1, s2, s7, s17, s18, s32, s33, s34, hjt, hcrow]
    rw [ForK_normal]
    refine ⟨hlt, by simp (disch := first | (simp only [go_sem, Bool.and_self, eq_self]; done) | omega | (simp only [List.length_cons, List.length_nil]; omega)) only [go_sem, ↓reduceIte, Nat.reduceEqDiff, Nat.reduceAdd, Nat.reduceMul, Nat.reduceSub, Int.reduceToNat, s19], by simp (disch := first | (simp only [go_sem, Bool.and_self, eq_self]; done) | omega | (simp only [List.length_cons, List.length_nil]; omega)) only [go_sem, ↓reduceIte, Nat.reduceEqDiff, Nat.reduceAdd, Nat.reduceMul, Nat.reduceSub, Int.reduceToNat, s0], by simp (disch := first | (simp only [go_sem, Bool.and_self, eq_self]; done) | omega | (simp only [List.length_cons, List.length_nil]; omega)) only [go_sem, ↓reduceIte, Nat.reduceEqDiff, Nat.reduceAdd, Nat.reduceMul, Nat.reduceSub, Int.reduceToNat, s1], by simp (disch := first | (simp only [go_sem, Bool.and_self, eq_self]; done) | omega | (simp only [List.length_cons, List.length_nil]; omega)) only [go_sem, ↓reduceIte, Nat.reduceEqDiff, Nat.reduceAdd, Nat.reduceMul, Nat.reduceSub, Int.reduceToNat, s2], by simp (disch := first | (simp only [go_sem, Bool.and_self, eq_self]; done) | omega | (simp only [List.length_cons, List.length_nil]; omega)) only [go_sem, ↓reduceIte, Nat.reduceEqDiff, Nat.reduceAdd, Nat.reduceMul, Nat.reduceSub, Int.reduceToNat, s7], by simp (disch := first | (simp only [go_sem, Bool.and_self, eq_self]; done) | omega | (simp only [List.length_cons, List.length_nil]; omega)) only [go_sem, ↓reduceIte, Nat.reduceEqDiff, Nat.reduceAdd, Nat.reduceMul, Nat.reduceSub, Int.reduceToNat, s17], by simp (disch := first | (simp only [go_sem, Bool.and_self, eq_self]; done) | omega | (simp only [List.length_cons, List.length_nil]; omega)) only [go_sem, ↓reduceIte, Nat.reduceEqDiff, Nat.reduceAdd, Nat.reduceMul, Nat.reduceSub, Int.reduceToNat, s18], hnx, ?_⟩
    rw [← masks_next]; exact hbl
  have hcut := f.cut i j hlt hjt
  have hd := f.depth
  have hm := maskN_lt f (lock := lock) hjt (n := i) (by omega)
  have hg := flat_get I (masks a cuts lock i j) j (by rw [masks_len]; exact hjt)
  rw [masks_nth hjt, if_neg (by omega)] at hg
  have hsh : binA Try.prog .shl 3 (I 1) (I (at2 cuts i j)) = some (I ((2 ^ (at2 cuts i j).toNat : Nat) : Int)) := by
    have := shl_one (P := Try.prog) 3 (at2 cuts i j).toNat (by omega)
    rwa [show (((at2 cuts i j).toNat : Nat) : Int) = at2 cuts i j by omega] at this
  have hpow : 2 ^ (at2 cuts i j).toNat < 2 ^ 5 := Nat.pow_lt_pow_right (by omega) (by omega)
  have hor := binA_or (P := Try.prog) 3 (maskN a cuts lock j i) (2 ^ (at2 cuts i j).toNat) (by omega) (by omega)
  have hset := masks_set (a := a) (cuts := cuts) (lock := lock) (n := i) hjt
  rw [maskN, if_neg h0] at hset
  have hmlen := masks_len a cuts lock i j
  simp (disch := first | (simp only [go_sem, Bool.and_self, eq_self]; done) | omega | (simp only [List.length_cons, List.length_nil]; omega)) only [go_sem, ↓reduceIte, Nat.reduceEqDiff, Nat.reduceAdd, Nat.reduceMul, Nat.reduceSub, Int.reduceToNat, s19, s0, s1, s2, s7, s17, s18, s32, s33, s34, hjt, hcrow, hbl, hg, hsh, hor, hnx, hset]
  rw [ForK_normal]
  refine ⟨hjt, by simp (disch := first | (simp only [go_sem, Bool.and_self, eq_self]; done) | omega | (simp only [List.length_cons, List.length_nil]; omega)) only [go_sem, ↓reduceIte, Nat.reduceEqDiff, Nat.reduceAdd, Nat.reduceMul, Nat.reduceSub, Int.reduceToNat, s34], by simp (disch := first | (simp only [go_sem, Bool.and_self, eq_self]; done) | omega | (simp only [List.length_cons, List.length_nil]; omega)) only [go_sem, ↓reduceIte, Nat.reduceEqDiff, Nat.reduceAdd, Nat.reduceMul, Nat.reduceSub, Int.reduceToNat, s0], by simp (disch := first | (simp only [go_sem, Bool.and_self, eq_self]; done) | omega | (simp only [List.length_cons, List.length_nil]; omega)) only [go_sem, ↓reduceIte, Nat.reduceEqDiff, Nat.reduceAdd, Nat.reduceMul, Nat.reduceSub, Int.reduceToNat, s1], by simp (disch := first | (simp only [go_sem, Bool.and_self, eq_self]; done) | omega | (simp only [List.length_cons, List.length_nil]; omega)) only [go_sem, ↓reduceIte, Nat.reduceEqDiff, Nat.reduceAdd, Nat.reduceMul, Nat.reduceSub, Int.reduceToNat, s2], by simp (disch := first | (simp only [go_sem, Bool.and_self, eq_self]; done) | omega | (simp only [List.length_cons, List.length_nil]; omega)) only [go_sem, ↓reduceIte, Nat.reduceEqDiff, Nat.reduceAdd, Nat.reduceMul, Nat.reduceSub, Int.reduceToNat, s7], by simp (disch := first | (simp only [go_sem, Bool.and_self, eq_self]; done) | omega | (simp only [List.length_cons, List.length_nil]; omega)) only [go_sem, ↓reduceIte, Nat.reduceEqDiff, Nat.reduceAdd, Nat.reduceMul, Nat.reduceSub, Int.reduceToNat, s17], by simp (disch := first | (simp only [go_sem, Bool.and_self, eq_self]; done) | omega | (simp only [List.length_cons, List.length_nil]; omega)) only [go_sem, ↓reduceIte, Nat.reduceEqDiff, Nat.reduceAdd, Nat.reduceMul, Nat.reduceSub, Int.reduceToNat, s18], by simp (disch := first | (simp only [go_sem, Bool.and_self, eq_self]; done) | omega | (simp only [List.length_cons, List.length_nil]; omega)) only [go_sem, ↓reduceIte, Nat.reduceEqDiff, Nat.reduceAdd, Nat.reduceMul, Nat.reduceSub, Int.reduceToNat, s19], by simp (disch := first | (simp only [go_sem, Bool.and_self, eq_self]; done) | omega | (simp only [List.length_cons, List.length_nil]; omega)) only [go_sem, ↓reduceIte, Nat.reduceEqDiff, Nat.reduceAdd, Nat.reduceMul, Nat.reduceSub, Int.reduceToNat, s32], by simp (disch := first | (simp only [go_sem, Bool.and_self, eq_self]; done) | omega | (simp only [List.length_cons, List.length_nil]; omega)) only [go_sem, ↓reduceIte, Nat.reduceEqDiff, Nat.reduceAdd, Nat.reduceMul, Nat.reduceSub, Int.reduceToNat, s33, hcrow], by simp (disch := first | (simp only [go_sem, Bool.and_self, eq_self]; done) | omega | (simp only [List.length_cons, List.length_nil]; omega)) only [go_sem, ↓reduceIte, Nat.reduceEqDiff, Nat.reduceAdd, Nat.reduceMul, Nat.reduceSub, Int.reduceToNat, hnx], by simp (disch := first | (simp only [go_sem, Bool.and_self, eq_self]; done) | omega | (simp only [List.length_cons, List.length_nil]; omega)) only [go_sem, ↓reduceIte, Nat.reduceEqDiff, Nat.reduceAdd, Nat.reduceMul, Nat.reduceSub, Int.reduceToNat]⟩
end Go.Proofs.Ytkjdnnedncomgaa
