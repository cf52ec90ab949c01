/-
  The small functions of the statements' own package: mod, ints, same, pairs.
  The program's small checks: within, isPlan, areCuts.
  Which keys open which locks: pins, opens, Strangers, and the reference's Pin and Opens.
  The pins of a lock as bits, what opens it, how many strangers do.
  Sets of pairs of a key and a lock, as bits of a number.
  What one chamber keeps apart, what must be kept apart: the program's 'bit', 'barred', 'bad'.
  The program's 'options': all that one chamber can keep apart.
  The program's 'options', whole.
  The program's 'cover', 'plan', Least.
-/
import Derived.Test.YtkjdnnedncomgaaL5Facts
import Derived.Test.YtkjdnnedncomgaaAmMore
set_option linter.unusedVariables false
set_option linter.unusedSimpArgs false
set_option maxRecDepth 10000
namespace Go.Proofs.Ytkjdnnedncomgaa
open Go Go.Am

theorem f12_con (x n : Int) (hx : ok64 x) (h0 : 0 < n) (h1 : n ≤ 9223372036854775807) : Con Try.prog cfg 12 [I x, I n] (I ((x % 18446744073709551616) % n)) := by
  refine Con_intro Try.func12 rfl ok12 (Nat.le_of_ble_eq_true rfl) rfl ?_
  simp only [Try.f12, Option.getD_some, initSt2]
  have e1 : IntKind.u64.wrap n = n := by rw [wrap_u64]; omega
  have e2 : IntKind.u64.wrap x = x % 18446744073709551616 := wrap_u64 x
  have e3 : (x % 18446744073709551616).tmod n = x % 18446744073709551616 % n := Int.tmod_eq_emod_of_nonneg (by omega)
  have e4 : IntKind.i64.wrap (x % 18446744073709551616 % n) = x % 18446744073709551616 % n := wrap_ok _ (by have := Int.emod_nonneg (x % 18446744073709551616) (show n ≠ 0 by omega); omega) (by have := Int.emod_lt_of_pos (x % 18446744073709551616) h0; omega)
  simp (disch := first | (simp only [go_sem, Bool.and_self, eq_self]; done) | omega | (simp only [List.length_cons, List.length_nil]; omega)) only [go_sem, ↓reduceIte, Nat.reduceEqDiff, Nat.reduceAdd, Nat.reduceMul, Nat.reduceSub, Int.reduceToNat, Nat.reduceBEq, List.size_toArray, List.length_cons, List.length_nil, Bool.false_and, Bool.true_and, Bool.or_false, Bool.false_or, Bool.and_false, Bool.and_true, e1, e2, e3, e4]

theorem list_eq_of_nth {xs ys : List Int} (hl : xs.length = ys.length) (h : ∀ j, j < xs.length → nth xs j = nth ys j) : xs = ys := by
  refine List.ext_getElem hl fun j h1 h2 => ?_
  have := h j h1
  rwa [nth_getElem h1, nth_getElem h2] at this

theorem f16_con (xs ys : List Int) (hx : xs.length ≤ 9223372036854775807) : Con Try.prog cfg 16 [LI xs, LI ys] (.bool (decide (xs = ys))) := by
  refine Con_intro Try.func16 rfl ok16 (Nat.le_of_ble_eq_true rfl) rfl ?_
  simp only [Try.f16, Option.getD_some, initSt2]
  by_cases hl : xs.length = ys.length
  case neg =>
    have hne : ¬ xs = ys := fun h => hl (by rw [h])
    simp (disch := first | (simp only [go_sem, Bool.and_self, eq_self]; done) | omega | (simp only [List.length_cons, List.length_nil]; omega)) only [go_sem, ↓reduceIte, Nat.reduceEqDiff, Nat.reduceAdd, Nat.reduceMul, Nat.reduceSub, Int.reduceToNat, Nat.reduceBEq, List.size_toArray, List.length_cons, List.length_nil, Bool.false_and, Bool.true_and, Bool.or_false, Bool.false_or, Bool.and_false, Bool.and_true, hl, decide_eq_false hne]
  simp (disch := first | (simp only [go_sem, Bool.and_self, eq_self]; done) | omega | (simp only [List.length_cons, List.length_nil]; omega)) only [go_sem, ↓reduceIte, Nat.reduceEqDiff, Nat.reduceAdd, Nat.reduceMul, Nat.reduceSub, Int.reduceToNat, Nat.reduceBEq, List.size_toArray, List.length_cons, List.length_nil, Bool.false_and, Bool.true_and, Bool.or_false, Bool.false_or, Bool.and_false, Bool.and_true, hl]
  refine WP_loopK (fun m st h => ∃ i : Nat, m = xs.length - i ∧ i ≤ xs.length ∧ st 0 = LI xs ∧ st 1 = LI ys ∧ st 5 = I i ∧ ∀ j, j < i → nth xs j = nth ys j) xs.length ⟨0, by omega, by omega, by simp (disch := first | (simp only [go_sem, Bool.and_self, eq_self]; done) | omega | (simp only [List.length_cons, List.length_nil]; omega)) only [go_sem, ↓reduceIte, Nat.reduceEqDiff, Nat.reduceAdd, Nat.reduceMul, Nat.reduceSub, Int.reduceToNat, Nat.reduceBEq, List.size_toArray, List.length_cons, List.length_nil, Bool.false_and, Bool.true_and, Bool.or_false, Bool.false_or, Bool.and_false, Bool.and_true], by simp (disch := first | (simp only [go_sem, Bool.and_self, eq_self]; done) | omega | (simp only [List.length_cons, List.length_nil]; omega)) only [go_sem, ↓reduceIte, Nat.reduceEqDiff, Nat.reduceAdd, Nat.reduceMul, Nat.reduceSub, Int.reduceToNat, Nat.reduceBEq, List.size_toArray, List.length_cons, List.length_nil, Bool.false_and, Bool.true_and, Bool.or_false, Bool.false_or, Bool.and_false, Bool.and_true], by simp (disch := first | (simp only [go_sem, Bool.and_self, eq_self]; done) | omega | (simp only [List.length_cons, List.length_nil]; omega)) only [go_sem, ↓reduceIte, Nat.reduceEqDiff, Nat.reduceAdd, Nat.reduceMul, Nat.reduceSub, Int.reduceToNat, Nat.reduceBEq, List.size_toArray, List.length_cons, List.length_nil, Bool.false_and, Bool.true_and, Bool.or_false, Bool.false_or, Bool.and_false, Bool.and_true]; rfl, by omega⟩ ?_
  rintro n st h ⟨i, rfl, hi, s0, s1, s5, heq⟩
  by_cases hlt : i < xs.length
  case neg =>
    have : xs = ys := list_eq_of_nth hl fun j hj => heq j (by omega)
    simp (disch := first | (simp only [go_sem, Bool.and_self, eq_self]; done) | omega | (simp only [List.length_cons, List.length_nil]; omega)) only [go_sem, ↓reduceIte, Nat.reduceEqDiff, Nat.reduceAdd, Nat.reduceMul, Nat.reduceSub, Int.reduceToNat, Nat.reduceBEq, List.size_toArray, List.length_cons, List.length_nil, Bool.false_and, Bool.true_and, Bool.or_false, Bool.false_or, Bool.and_false, Bool.and_true, s0, s1, s5, hlt, decide_eq_true this]
  by_cases he : nth xs i = nth ys i
  case neg =>
    have : ¬ xs = ys := fun h => he (by rw [h])
    simp (disch := first | (simp only [go_sem, Bool.and_self, eq_self]; done) | omega | (simp only [List.length_cons, List.length_nil]; omega)) only [go_sem, ↓reduceIte, Nat.reduceEqDiff, Nat.reduceAdd, Nat.reduceMul, Nat.reduceSub, Int.reduceToNat, Nat.reduceBEq, List.size_toArray, List.length_cons, List.length_nil, Bool.false_and, Bool.true_and, Bool.or_false, Bool.false_or, Bool.and_false, Bool.and_true, s0, s1, s5, hlt, he, decide_eq_false this]
  simp (disch := first | (simp only [go_sem, Bool.and_self, eq_self]; done) | omega | (simp only [List.length_cons, List.length_nil]; omega)) only [go_sem, ↓reduceIte, Nat.reduceEqDiff, Nat.reduceAdd, Nat.reduceMul, Nat.reduceSub, Int.reduceToNat, Nat.reduceBEq, List.size_toArray, List.length_cons, List.length_nil, Bool.false_and, Bool.true_and, Bool.or_false, Bool.false_or, Bool.and_false, Bool.and_true, s0, s1, s5, hlt, he]
  rw [LoopK_normal]
  refine ⟨xs.length - (i + 1), by omega, i + 1, rfl, by omega, ?_, ?_, ?_, ?_⟩
  · simp (disch := first | (simp only [go_sem, Bool.and_self, eq_self]; done) | omega | (simp only [List.length_cons, List.length_nil]; omega)) only [go_sem, ↓reduceIte, Nat.reduceEqDiff, Nat.reduceAdd, Nat.reduceMul, Nat.reduceSub, Int.reduceToNat, Nat.reduceBEq, List.size_toArray, List.length_cons, List.length_nil, Bool.false_and, Bool.true_and, Bool.or_false, Bool.false_or, Bool.and_false, Bool.and_true, s0]
  · simp (disch := first | (simp only [go_sem, Bool.and_self, eq_self]; done) | omega | (simp only [List.length_cons, List.length_nil]; omega)) only [go_sem, ↓reduceIte, Nat.reduceEqDiff, Nat.reduceAdd, Nat.reduceMul, Nat.reduceSub, Int.reduceToNat, Nat.reduceBEq, List.size_toArray, List.length_cons, List.length_nil, Bool.false_and, Bool.true_and, Bool.or_false, Bool.false_or, Bool.and_false, Bool.and_true, s1]
  · simp (disch := first | (simp only [go_sem, Bool.and_self, eq_self]; done) | omega | (simp only [List.length_cons, List.length_nil]; omega)) only [go_sem, ↓reduceIte, Nat.reduceEqDiff, Nat.reduceAdd, Nat.reduceMul, Nat.reduceSub, Int.reduceToNat, Nat.reduceBEq, List.size_toArray, List.length_cons, List.length_nil, Bool.false_and, Bool.true_and, Bool.or_false, Bool.false_or, Bool.and_false, Bool.and_true]; rfl
  · intro j hj
    rcases Nat.lt_or_ge j i with h | h
    · exact heq j h
    · rwa [show j = i by omega]
end Go.Proofs.Ytkjdnnedncomgaa

set_option linter.unusedVariables false
set_option linter.unusedSimpArgs false
set_option maxRecDepth 10000
namespace Go.Proofs.Ytkjdnnedncomgaa
open Go Go.Am

variable {h h' : Hp} {K : AV → Hp → Prop}

theorem k12 (x n : Int) (hx : ok64 x) (h0 : 0 < n) (h1 : n ≤ 9223372036854775807) : ConW Try.prog cfg 12 h (some ([I x, I n], h')) K = K (I ((x % 18446744073709551616) % n)) h := ConW_num (f12_con x n hx h0 h1) rfl
theorem k16 (xs ys : List Int) (hx : xs.length ≤ 9223372036854775807) : ConW Try.prog cfg 16 h (some ([LI xs, LI ys], h')) K = K (.bool (decide (xs = ys))) h := ConW_num (f16_con xs ys hx) rfl

theorem f34_con (n lo hi : Int) : Con Try.prog cfg 34 [I n, I lo, I hi] (.bool (decide (lo ≤ n ∧ n ≤ hi))) := by
  refine Con_intro Try.func34 rfl ok34 (Nat.le_of_ble_eq_true rfl) rfl ?_
  simp only [Try.f34, Option.getD_some, initSt3]
  by_cases h1 : lo ≤ n
  · by_cases h2 : n ≤ hi
    · simp (disch := first | (simp only [go_sem, Bool.and_self, eq_self]; done) | omega | (simp only [List.length_cons, List.length_nil]; omega)) only [go_sem, ↓reduceIte, Nat.reduceEqDiff, Nat.reduceAdd, Nat.reduceMul, Nat.reduceSub, Int.reduceToNat, Nat.reduceBEq, List.size_toArray, List.length_cons, List.length_nil, Bool.false_and, Bool.true_and, Bool.or_false, Bool.false_or, Bool.and_false, Bool.and_true, h1, h2, decide_eq_true (And.intro h1 h2)]
    · simp (disch := first | (simp only [go_sem, Bool.and_self, eq_self]; done) | omega | (simp only [List.length_cons, List.length_nil]; omega)) only [go_sem, ↓reduceIte, Nat.reduceEqDiff, Nat.reduceAdd, Nat.reduceMul, Nat.reduceSub, Int.reduceToNat, Nat.reduceBEq, List.size_toArray, List.length_cons, List.length_nil, Bool.false_and, Bool.true_and, Bool.or_false, Bool.false_or, Bool.and_false, Bool.and_true, h1, h2, decide_eq_false (fun h : lo ≤ n ∧ n ≤ hi => h2 h.2)]
  · simp (disch := first | (simp only [go_sem, Bool.and_self, eq_self]; done) | omega | (simp only [List.length_cons, List.length_nil]; omega)) only [go_sem, ↓reduceIte, Nat.reduceEqDiff, Nat.reduceAdd, Nat.reduceMul, Nat.reduceSub, Int.reduceToNat, Nat.reduceBEq, List.size_toArray, List.length_cons, List.length_nil, Bool.false_and, Bool.true_and, Bool.or_false, Bool.false_or, Bool.and_false, Bool.and_true, h1, decide_eq_false (fun h : lo ≤ n ∧ n ≤ hi => h1 h.1)]
@[go_sem] theorem k34 (n lo hi : Int) : ConW Try.prog cfg 34 h (some ([I n, I lo, I hi], h')) K = K (.bool (decide (lo ≤ n ∧ n ≤ hi))) h := ConW_num (f34_con n lo hi) rfl

theorem f49_con (x : Int) : Con Try.prog cfg 49 [I x] (.bool (!decide (0 ≤ x ∧ x ≤ 1))) := by
  refine Con_intro Try.func49 rfl ok49 (Nat.le_of_ble_eq_true rfl) rfl ?_
  simp only [Try.f49, Option.getD_some, initSt1]
  simp (disch := first | (simp only [go_sem, Bool.and_self, eq_self]; done) | omega | (simp only [List.length_cons, List.length_nil]; omega)) only [go_sem, ↓reduceIte, Nat.reduceEqDiff, Nat.reduceAdd, Nat.reduceMul, Nat.reduceSub, Int.reduceToNat, Nat.reduceBEq, List.size_toArray, List.length_cons, List.length_nil, Bool.false_and, Bool.true_and, Bool.or_false, Bool.false_or, Bool.and_false, Bool.and_true]
/-- The first place where a test answers yes, or -1. -/
def findI (p : Int → Bool) (xs : List Int) : Int := match xs.findIdx? p with | some i => i | none => -1
theorem f56_con (xs : List Int) (hx : xs.length ≤ 9223372036854775807) (g : FuncId) (caps : List AV) (p : Int → Bool) (hs : cfg.shared g = false) (hc : ∀ h : Hp, sealArgs h caps = some (caps, h))
    (hp : AV.pureL caps = true) (hg : ∀ x, Con Try.prog cfg g (I x :: caps) (.bool (p x))) : Con Try.prog cfg 56 [LI xs, .fn g caps] (I (findI p xs)) := by
  refine Con_intro Try.func56 rfl ok56 (Nat.le_of_ble_eq_true rfl) rfl ?_
  simp only [Try.f56, Option.getD_some, initSt2]
  have kg : ∀ x h h' K, ConW Try.prog cfg g h (some (I x :: caps, h')) K = K (.bool (p x)) h := fun x h h' K => ConW_num (hg x) rfl
  simp (disch := first | (simp only [go_sem, Bool.and_self, eq_self]; done) | omega | (simp only [List.length_cons, List.length_nil]; omega)) only [go_sem, ↓reduceIte, Nat.reduceEqDiff, Nat.reduceAdd, Nat.reduceMul, Nat.reduceSub, Int.reduceToNat, Nat.reduceBEq, List.size_toArray, List.length_cons, List.length_nil, Bool.false_and, Bool.true_and, Bool.or_false, Bool.false_or, Bool.and_false, Bool.and_true]
  refine WP_for 8 xs.length (fun i st h => st 0 = LI xs ∧ st 1 = .fn g caps ∧ st 7 = I xs.length ∧ ∀ j, j < i → p (nth xs j) = false) (by simp (disch := first | (simp only [go_sem, Bool.and_self, eq_self]; done) | omega | (simp only [List.length_cons, List.length_nil]; omega)) only [go_sem, ↓reduceIte, Nat.reduceEqDiff, Nat.reduceAdd, Nat.reduceMul, Nat.reduceSub, Int.reduceToNat, Nat.reduceBEq, List.size_toArray, List.length_cons, List.length_nil, Bool.false_and, Bool.true_and, Bool.or_false, Bool.false_or, Bool.and_false, Bool.and_true]) ⟨by simp (disch := first | (simp only [go_sem, Bool.and_self, eq_self]; done) | omega | (simp only [List.length_cons, List.length_nil]; omega)) only [go_sem, ↓reduceIte, Nat.reduceEqDiff, Nat.reduceAdd, Nat.reduceMul, Nat.reduceSub, Int.reduceToNat, Nat.reduceBEq, List.size_toArray, List.length_cons, List.length_nil, Bool.false_and, Bool.true_and, Bool.or_false, Bool.false_or, Bool.and_false, Bool.and_true], by simp (disch := first | (simp only [go_sem, Bool.and_self, eq_self]; done) | omega | (simp only [List.length_cons, List.length_nil]; omega)) only [go_sem, ↓reduceIte, Nat.reduceEqDiff, Nat.reduceAdd, Nat.reduceMul, Nat.reduceSub, Int.reduceToNat, Nat.reduceBEq, List.size_toArray, List.length_cons, List.length_nil, Bool.false_and, Bool.true_and, Bool.or_false, Bool.false_or, Bool.and_false, Bool.and_true], by simp (disch := first | (simp only [go_sem, Bool.and_self, eq_self]; done) | omega | (simp only [List.length_cons, List.length_nil]; omega)) only [go_sem, ↓reduceIte, Nat.reduceEqDiff, Nat.reduceAdd, Nat.reduceMul, Nat.reduceSub, Int.reduceToNat, Nat.reduceBEq, List.size_toArray, List.length_cons, List.length_nil, Bool.false_and, Bool.true_and, Bool.or_false, Bool.false_or, Bool.and_false, Bool.and_true], by omega⟩ ?_
  rintro i st h hi s8 ⟨s0, s1, s7, hn⟩
  by_cases hlt : i < xs.length
  case neg =>
    have : findI p xs = -1 := by
      have : xs.findIdx? p = none := by
        rw [List.findIdx?_eq_none_iff]
        intro x hx'
        obtain ⟨j, hj, rfl⟩ := List.getElem_of_mem hx'
        rw [← nth_getElem hj]
        exact hn j (by omega)
      simp [findI, this]
    simp (disch := first | (simp only [go_sem, Bool.and_self, eq_self]; done) | omega | (simp only [List.length_cons, List.length_nil]; omega)) only [go_sem, ↓reduceIte, Nat.reduceEqDiff, Nat.reduceAdd, Nat.reduceMul, Nat.reduceSub, Int.reduceToNat, Nat.reduceBEq, List.size_toArray, List.length_cons, List.length_nil, Bool.false_and, Bool.true_and, Bool.or_false, Bool.false_or, Bool.and_false, Bool.and_true, s8, s0, s1, s7, hlt, this]
  cases hpx : p (nth xs i) with
  | true =>
    have : findI p xs = i := by
      have : xs.findIdx? p = some i := by
        rw [List.findIdx?_eq_some_iff_getElem]
        refine ⟨hlt, by rw [← nth_getElem hlt]; exact hpx, fun j hj => ?_⟩
        rw [← nth_getElem (by omega)]
        simp [hn j hj]
      simp [findI, this]
    simp (disch := first | (simp only [go_sem, Bool.and_self, eq_self]; done) | omega | (simp only [List.length_cons, List.length_nil]; omega)) only [go_sem, ↓reduceIte, Nat.reduceEqDiff, Nat.reduceAdd, Nat.reduceMul, Nat.reduceSub, Int.reduceToNat, Nat.reduceBEq, List.size_toArray, List.length_cons, List.length_nil, Bool.false_and, Bool.true_and, Bool.or_false, Bool.false_or, Bool.and_false, Bool.and_true, s8, s0, s1, s7, hlt, hs, hc, kg, hpx, this]
  | false =>
    simp (disch := first | (simp only [go_sem, Bool.and_self, eq_self]; done) | omega | (simp only [List.length_cons, List.length_nil]; omega)) only [go_sem, ↓reduceIte, Nat.reduceEqDiff, Nat.reduceAdd, Nat.reduceMul, Nat.reduceSub, Int.reduceToNat, Nat.reduceBEq, List.size_toArray, List.length_cons, List.length_nil, Bool.false_and, Bool.true_and, Bool.or_false, Bool.false_or, Bool.and_false, Bool.and_true, s8, s0, s1, s7, hlt, hs, hc, kg, hpx]
    rw [ForK_normal]
    refine ⟨hlt, by simp (disch := first | (simp only [go_sem, Bool.and_self, eq_self]; done) | omega | (simp only [List.length_cons, List.length_nil]; omega)) only [go_sem, ↓reduceIte, Nat.reduceEqDiff, Nat.reduceAdd, Nat.reduceMul, Nat.reduceSub, Int.reduceToNat, Nat.reduceBEq, List.size_toArray, List.length_cons, List.length_nil, Bool.false_and, Bool.true_and, Bool.or_false, Bool.false_or, Bool.and_false, Bool.and_true, s8], by simp (disch := first | (simp only [go_sem, Bool.and_self, eq_self]; done) | omega | (simp only [List.length_cons, List.length_nil]; omega)) only [go_sem, ↓reduceIte, Nat.reduceEqDiff, Nat.reduceAdd, Nat.reduceMul, Nat.reduceSub, Int.reduceToNat, Nat.reduceBEq, List.size_toArray, List.length_cons, List.length_nil, Bool.false_and, Bool.true_and, Bool.or_false, Bool.false_or, Bool.and_false, Bool.and_true, s0], by simp (disch := first | (simp only [go_sem, Bool.and_self, eq_self]; done) | omega | (simp only [List.length_cons, List.length_nil]; omega)) only [go_sem, ↓reduceIte, Nat.reduceEqDiff, Nat.reduceAdd, Nat.reduceMul, Nat.reduceSub, Int.reduceToNat, Nat.reduceBEq, List.size_toArray, List.length_cons, List.length_nil, Bool.false_and, Bool.true_and, Bool.or_false, Bool.false_or, Bool.and_false, Bool.and_true, s1], by simp (disch := first | (simp only [go_sem, Bool.and_self, eq_self]; done) | omega | (simp only [List.length_cons, List.length_nil]; omega)) only [go_sem, ↓reduceIte, Nat.reduceEqDiff, Nat.reduceAdd, Nat.reduceMul, Nat.reduceSub, Int.reduceToNat, Nat.reduceBEq, List.size_toArray, List.length_cons, List.length_nil, Bool.false_and, Bool.true_and, Bool.or_false, Bool.false_or, Bool.and_false, Bool.and_true, s7], fun j hj => ?_⟩
    rcases Nat.lt_or_ge j i with hj' | hj'
    · exact hn j hj'
    · rwa [show j = i by omega]

theorem findI_nonneg (p : Int → Bool) (xs : List Int) : decide (0 ≤ findI p xs) = xs.any p := by
  unfold findI
  cases hf : xs.findIdx? p with
  | none =>
    rw [List.findIdx?_eq_none_iff] at hf
    have : xs.any p = false := by
      rw [List.any_eq_false]
      intro x hx
      simp [hf x hx]
    rw [this]
    decide
  | some i =>
    rw [List.findIdx?_eq_some_iff_getElem] at hf
    obtain ⟨hi, hpi, _⟩ := hf
    have : xs.any p = true := List.any_eq_true.2 ⟨_, List.getElem_mem hi, hpi⟩
    rw [this]
    simp
theorem f48_con (xs : List Int) (hx : xs.length ≤ 9223372036854775807) (g : FuncId) (caps : List AV) (p : Int → Bool) (hs : cfg.shared g = false) (hc : ∀ h : Hp, sealArgs h caps = some (caps, h))
    (hp : AV.pureL caps = true) (hg : ∀ x, Con Try.prog cfg g (I x :: caps) (.bool (p x))) : Con Try.prog cfg 48 [LI xs, .fn g caps] (.bool (xs.any p)) := by
  refine Con_intro Try.func48 rfl ok48 (Nat.le_of_ble_eq_true rfl) rfl ?_
  simp only [Try.f48, Option.getD_some, initSt2]
  have kg : ∀ h h' K, ConW Try.prog cfg 56 h (some ([LI xs, .fn g caps], h')) K = K (I (findI p xs)) h := fun h h' K => ConW_num (f56_con xs hx g caps p hs hc hp hg) rfl
  simp (disch := first | (simp only [go_sem, Bool.and_self, eq_self]; done) | omega | (simp only [List.length_cons, List.length_nil]; omega)) only [go_sem, ↓reduceIte, Nat.reduceEqDiff, Nat.reduceAdd, Nat.reduceMul, Nat.reduceSub, Int.reduceToNat, Nat.reduceBEq, List.size_toArray, List.length_cons, List.length_nil, Bool.false_and, Bool.true_and, Bool.or_false, Bool.false_or, Bool.and_false, Bool.and_true, sealA_fn g caps hp, kg, findI_nonneg]

/-- An access plan. -/
def isPlanB (a : List (List Int)) : Bool := decide (1 ≤ a.length ∧ a.length ≤ 6) && decide (1 ≤ (nth a 0).length ∧ (nth a 0).length ≤ 6) && a.all fun r => decide (r.length = (nth a 0).length) && r.all fun x => decide (0 ≤ x ∧ x ≤ 1)

def okLL (a : List (List Int)) : Prop := a.length ≤ 9223372036854775807 ∧ ∀ r ∈ a, r.length ≤ 9223372036854775807
theorem okLL.row {a : List (List Int)} (h : okLL a) {i : Nat} (hi : i < a.length) : (nth a i).length ≤ 9223372036854775807 := h.2 _ (nth_mem hi)

theorem not_all_of {α : Type} [Inhabited α] {p : α → Bool} {xs : List α} {i : Nat} (hi : i < xs.length) (h : p (nth xs i) = false) : xs.all p = false := by
  rw [List.all_eq_false]
  exact ⟨_, nth_mem hi, by simp [h]⟩
theorem all_of_nth {α : Type} [Inhabited α] {p : α → Bool} {xs : List α} (h : ∀ j, j < xs.length → p (nth xs j) = true) : xs.all p = true := by
  rw [List.all_eq_true]
  intro x hx
  obtain ⟨j, hj, rfl⟩ := List.getElem_of_mem hx
  rw [← nth_getElem hj]
  exact h j hj
theorem any_not {p : Int → Bool} (xs : List Int) : xs.any (fun x => !p x) = !xs.all p := by
  induction xs with
  | nil => rfl
  | cons x xs ih => simp [ih]

theorem f32_con (a : List (List Int)) (ha : okLL a) : Con Try.prog cfg 32 [LLI a] (.bool (isPlanB a)) := by
  refine Con_intro Try.func32 rfl ok32 (Nat.le_of_ble_eq_true rfl) rfl ?_
  simp only [Try.f32, Option.getD_some, initSt1]
  by_cases h1 : 1 ≤ a.length ∧ a.length ≤ 6
  case neg =>
    have q1 : decide ((1 : Int) ≤ a.length ∧ (a.length : Int) ≤ 6) = false := decide_eq_false (by omega)
    have q2 : isPlanB a = false := by simp [isPlanB, h1]
    simp (disch := first | (simp only [go_sem, Bool.and_self, eq_self]; done) | omega | (simp only [List.length_cons, List.length_nil]; omega)) only [go_sem, ↓reduceIte, Nat.reduceEqDiff, Nat.reduceAdd, Nat.reduceMul, Nat.reduceSub, Int.reduceToNat, Nat.reduceBEq, List.size_toArray, List.length_cons, List.length_nil, Bool.false_and, Bool.true_and, Bool.or_false, Bool.false_or, Bool.and_false, Bool.and_true, q1, q2]
  have q1 : decide ((1 : Int) ≤ a.length ∧ (a.length : Int) ≤ 6) = true := decide_eq_true (by omega)
  by_cases h2 : 1 ≤ (nth a 0).length ∧ (nth a 0).length ≤ 6
  case neg =>
    have q2 : decide ((1 : Int) ≤ (nth a 0).length ∧ ((nth a 0).length : Int) ≤ 6) = false := decide_eq_false (by omega)
    have e3 : isPlanB a = false := by simp [isPlanB, h2]
    simp (disch := first | (simp only [go_sem, Bool.and_self, eq_self]; done) | omega | (simp only [List.length_cons, List.length_nil]; omega)) only [go_sem, ↓reduceIte, Nat.reduceEqDiff, Nat.reduceAdd, Nat.reduceMul, Nat.reduceSub, Int.reduceToNat, Nat.reduceBEq, List.size_toArray, List.length_cons, List.length_nil, Bool.false_and, Bool.true_and, Bool.or_false, Bool.false_or, Bool.and_false, Bool.and_true, q1, q2, e3]
  have q2 : decide ((1 : Int) ≤ (nth a 0).length ∧ ((nth a 0).length : Int) ≤ 6) = true := decide_eq_true (by omega)
  simp (disch := first | (simp only [go_sem, Bool.and_self, eq_self]; done) | omega | (simp only [List.length_cons, List.length_nil]; omega)) only [go_sem, ↓reduceIte, Nat.reduceEqDiff, Nat.reduceAdd, Nat.reduceMul, Nat.reduceSub, Int.reduceToNat, Nat.reduceBEq, List.size_toArray, List.length_cons, List.length_nil, Bool.false_and, Bool.true_and, Bool.or_false, Bool.false_or, Bool.and_false, Bool.and_true, q1, q2]
  refine WP_for 19 a.length (fun i st h => st 0 = LLI a ∧ st 17 = LLI a ∧ st 18 = I a.length ∧ ∀ j, j < i → (decide ((nth a j).length = (nth a 0).length) && (nth a j).all fun x => decide (0 ≤ x ∧ x ≤ 1)) = true) (by simp (disch := first | (simp only [go_sem, Bool.and_self, eq_self]; done) | omega | (simp only [List.length_cons, List.length_nil]; omega)) only [go_sem, ↓reduceIte, Nat.reduceEqDiff, Nat.reduceAdd, Nat.reduceMul, Nat.reduceSub, Int.reduceToNat, Nat.reduceBEq, List.size_toArray, List.length_cons, List.length_nil, Bool.false_and, Bool.true_and, Bool.or_false, Bool.false_or, Bool.and_false, Bool.and_true]) ⟨by simp (disch := first | (simp only [go_sem, Bool.and_self, eq_self]; done) | omega | (simp only [List.length_cons, List.length_nil]; omega)) only [go_sem, ↓reduceIte, Nat.reduceEqDiff, Nat.reduceAdd, Nat.reduceMul, Nat.reduceSub, Int.reduceToNat, Nat.reduceBEq, List.size_toArray, List.length_cons, List.length_nil, Bool.false_and, Bool.true_and, Bool.or_false, Bool.false_or, Bool.and_false, Bool.and_true], by simp (disch := first | (simp only [go_sem, Bool.and_self, eq_self]; done) | omega | (simp only [List.length_cons, List.length_nil]; omega)) only [go_sem, ↓reduceIte, Nat.reduceEqDiff, Nat.reduceAdd, Nat.reduceMul, Nat.reduceSub, Int.reduceToNat, Nat.reduceBEq, List.size_toArray, List.length_cons, List.length_nil, Bool.false_and, Bool.true_and, Bool.or_false, Bool.false_or, Bool.and_false, Bool.and_true], by simp (disch := first | (simp only [go_sem, Bool.and_self, eq_self]; done) | omega | (simp only [List.length_cons, List.length_nil]; omega)) only [go_sem, ↓reduceIte, Nat.reduceEqDiff, Nat.reduceAdd, Nat.reduceMul, Nat.reduceSub, Int.reduceToNat, Nat.reduceBEq, List.size_toArray, List.length_cons, List.length_nil, Bool.false_and, Bool.true_and, Bool.or_false, Bool.false_or, Bool.and_false, Bool.and_true], by omega⟩ ?_
  rintro i st h hi s19 ⟨s0, s17, s18, hn⟩
  by_cases hlt : i < a.length
  case neg =>
    have : isPlanB a = true := by
      simp only [isPlanB, Bool.and_eq_true, decide_eq_true_eq]
      exact ⟨⟨h1, h2⟩, all_of_nth fun j hj => hn j (by omega)⟩
    simp (disch := first | (simp only [go_sem, Bool.and_self, eq_self]; done) | omega | (simp only [List.length_cons, List.length_nil]; omega)) only [go_sem, ↓reduceIte, Nat.reduceEqDiff, Nat.reduceAdd, Nat.reduceMul, Nat.reduceSub, Int.reduceToNat, Nat.reduceBEq, List.size_toArray, List.length_cons, List.length_nil, Bool.false_and, Bool.true_and, Bool.or_false, Bool.false_or, Bool.and_false, Bool.and_true, s19, s0, s17, s18, hlt, this]
  have k48 : ∀ h h' K, ConW Try.prog cfg 48 h (some ([LI (nth a i), .fn 49 []], h')) K = K (.bool ((nth a i).any fun x => !decide (0 ≤ x ∧ x ≤ 1))) h :=
    fun h h' K => ConW_num (f48_con (nth a i) (ha.row hlt) 49 [] _ rfl (fun _ => rfl) rfl f49_con) rfl
  by_cases h3 : (nth a i).length = (nth a 0).length
  case neg =>
    have : isPlanB a = false := by
      have := not_all_of (p := fun r => decide (r.length = (nth a 0).length) && r.all fun x => decide (0 ≤ x ∧ x ≤ 1)) hlt (by simp [h3])
      simp only [isPlanB, this, Bool.and_false]
    simp (disch := first | (simp only [go_sem, Bool.and_self, eq_self]; done) | omega | (simp only [List.length_cons, List.length_nil]; omega)) only [go_sem, ↓reduceIte, Nat.reduceEqDiff, Nat.reduceAdd, Nat.reduceMul, Nat.reduceSub, Int.reduceToNat, Nat.reduceBEq, List.size_toArray, List.length_cons, List.length_nil, Bool.false_and, Bool.true_and, Bool.or_false, Bool.false_or, Bool.and_false, Bool.and_true, s19, s0, s17, s18, hlt, h3, this]
  cases h4 : (nth a i).all fun x => decide (0 ≤ x ∧ x ≤ 1) with
  | false =>
    have : isPlanB a = false := by
      have := not_all_of (p := fun r => decide (r.length = (nth a 0).length) && r.all fun x => decide (0 ≤ x ∧ x ≤ 1)) hlt (by simp only [h4, Bool.and_false])
      simp only [isPlanB, this, Bool.and_false]
    simp (disch := first | (simp only [go_sem, Bool.and_self, eq_self]; done) | omega | (simp only [List.length_cons, List.length_nil]; omega)) only [go_sem, ↓reduceIte, Nat.reduceEqDiff, Nat.reduceAdd, Nat.reduceMul, Nat.reduceSub, Int.reduceToNat, Nat.reduceBEq, List.size_toArray, List.length_cons, List.length_nil, Bool.false_and, Bool.true_and, Bool.or_false, Bool.false_or, Bool.and_false, Bool.and_true, s19, s0, s17, s18, hlt, h3, this, sealA_fn 49 [] rfl, k48, any_not, h4]
  | true =>
    simp (disch := first | (simp only [go_sem, Bool.and_self, eq_self]; done) | omega | (simp only [List.length_cons, List.length_nil]; omega)) only [go_sem, ↓reduceIte, Nat.reduceEqDiff, Nat.reduceAdd, Nat.reduceMul, Nat.reduceSub, Int.reduceToNat, Nat.reduceBEq, List.size_toArray, List.length_cons, List.length_nil, Bool.false_and, Bool.true_and, Bool.or_false, Bool.false_or, Bool.and_false, Bool.and_true, s19, s0, s17, s18, hlt, h3, sealA_fn 49 [] rfl, k48, any_not, h4]
    rw [ForK_normal]
    refine ⟨hlt, by simp (disch := first | (simp only [go_sem, Bool.and_self, eq_self]; done) | omega | (simp only [List.length_cons, List.length_nil]; omega)) only [go_sem, ↓reduceIte, Nat.reduceEqDiff, Nat.reduceAdd, Nat.reduceMul, Nat.reduceSub, Int.reduceToNat, Nat.reduceBEq, List.size_toArray, List.length_cons, List.length_nil, Bool.false_and, Bool.true_and, Bool.or_false, Bool.false_or, Bool.and_false, Bool.and_true, s19], by simp (disch := first | (simp only [go_sem, Bool.and_self, eq_self]; done) | omega | (simp only [List.length_cons, List.length_nil]; omega)) only [go_sem, ↓reduceIte, Nat.reduceEqDiff, Nat.reduceAdd, Nat.reduceMul, Nat.reduceSub, Int.reduceToNat, Nat.reduceBEq, List.size_toArray, List.length_cons, List.length_nil, Bool.false_and, Bool.true_and, Bool.or_false, Bool.false_or, Bool.and_false, Bool.and_true, s0], by simp (disch := first | (simp only [go_sem, Bool.and_self, eq_self]; done) | omega | (simp only [List.length_cons, List.length_nil]; omega)) only [go_sem, ↓reduceIte, Nat.reduceEqDiff, Nat.reduceAdd, Nat.reduceMul, Nat.reduceSub, Int.reduceToNat, Nat.reduceBEq, List.size_toArray, List.length_cons, List.length_nil, Bool.false_and, Bool.true_and, Bool.or_false, Bool.false_or, Bool.and_false, Bool.and_true, s17], by simp (disch := first | (simp only [go_sem, Bool.and_self, eq_self]; done) | omega | (simp only [List.length_cons, List.length_nil]; omega)) only [go_sem, ↓reduceIte, Nat.reduceEqDiff, Nat.reduceAdd, Nat.reduceMul, Nat.reduceSub, Int.reduceToNat, Nat.reduceBEq, List.size_toArray, List.length_cons, List.length_nil, Bool.false_and, Bool.true_and, Bool.or_false, Bool.false_or, Bool.and_false, Bool.and_true, s18], fun j hj => ?_⟩
    rcases Nat.lt_or_ge j i with hj' | hj'
    · exact hn j hj'
    · rw [show j = i by omega, h3, h4]; simp
theorem k32 (a : List (List Int)) (ha : okLL a) : ConW Try.prog cfg 32 h (some ([LLI a], h')) K = K (.bool (isPlanB a)) h := ConW_num (f32_con a ha) rfl

/-- Cuts for some keys, with some depths. -/
def areCutsB (cuts : List (List Int)) (keys d : Int) : Bool := decide (1 ≤ d ∧ d ≤ 4) && decide ((cuts.length : Int) = keys) && decide (1 ≤ (nth cuts 0).length ∧ (nth cuts 0).length ≤ 4) && cuts.all fun r => decide (r.length = (nth cuts 0).length) && r.all fun x => decide (1 ≤ x ∧ x ≤ d)

end Go.Proofs.Ytkjdnnedncomgaa

set_option linter.unusedVariables false
set_option linter.unusedSimpArgs false
set_option maxRecDepth 10000
namespace Go.Proofs.Ytkjdnnedncomgaa
open Go Go.Am

variable {h h' : Hp} {K : AV → Hp → Prop}

/-- Row i, place j. -/
abbrev at2 (a : List (List Int)) (i j : Nat) : Int := nth (nth a i) j

/-- Some key that is meant to open the lock has this depth in this chamber. -/
def pinB (a cuts : List (List Int)) (lock c : Nat) (d : Int) : Bool := (List.range a.length).any fun i => decide (at2 a i lock = 1) && decide (at2 cuts i c = d)

theorem f36_con (a cuts : List (List Int)) (lock c : Nat) (d : Int) (ha : okLL a) (hl : ∀ i, i < a.length → lock < (nth a i).length) (hc : cuts.length = a.length) (hcc : ∀ i, i < a.length → c < (nth cuts i).length)
    (hb1 : lock ≤ 9223372036854775807) (hb2 : c ≤ 9223372036854775807) : Con Try.prog cfg 36 [LLI a, LLI cuts, I lock, I c, I d] (.bool (pinB a cuts lock c d)) := by
  have hlen := ha.1
  refine Con_intro Try.func36 rfl ok36 (Nat.le_of_ble_eq_true rfl) rfl ?_
  simp only [Try.f36, Option.getD_some, initSt5]
  simp (disch := first | (simp only [go_sem, Bool.and_self, eq_self]; done) | omega | (simp only [List.length_cons, List.length_nil]; omega)) only [go_sem, ↓reduceIte, Nat.reduceEqDiff, Nat.reduceAdd, Nat.reduceMul, Nat.reduceSub, Int.reduceToNat, Nat.reduceBEq, List.size_toArray, List.length_cons, List.length_nil, Bool.false_and, Bool.true_and, Bool.or_false, Bool.false_or, Bool.and_false, Bool.and_true]
  refine WP_for 11 a.length (fun i st h => st 0 = LLI a ∧ st 1 = LLI cuts ∧ st 2 = I lock ∧ st 3 = I c ∧ st 4 = I d ∧ ∀ j, j < i → ¬ (at2 a j lock = 1 ∧ at2 cuts j c = d)) (by simp (disch := first | (simp only [go_sem, Bool.and_self, eq_self]; done) | omega | (simp only [List.length_cons, List.length_nil]; omega)) only [go_sem, ↓reduceIte, Nat.reduceEqDiff, Nat.reduceAdd, Nat.reduceMul, Nat.reduceSub, Int.reduceToNat, Nat.reduceBEq, List.size_toArray, List.length_cons, List.length_nil, Bool.false_and, Bool.true_and, Bool.or_false, Bool.false_or, Bool.and_false, Bool.and_true]) ⟨by simp (disch := first | (simp only [go_sem, Bool.and_self, eq_self]; done) | omega | (simp only [List.length_cons, List.length_nil]; omega)) only [go_sem, ↓reduceIte, Nat.reduceEqDiff, Nat.reduceAdd, Nat.reduceMul, Nat.reduceSub, Int.reduceToNat, Nat.reduceBEq, List.size_toArray, List.length_cons, List.length_nil, Bool.false_and, Bool.true_and, Bool.or_false, Bool.false_or, Bool.and_false, Bool.and_true], by simp (disch := first | (simp only [go_sem, Bool.and_self, eq_self]; done) | omega | (simp only [List.length_cons, List.length_nil]; omega)) only [go_sem, ↓reduceIte, Nat.reduceEqDiff, Nat.reduceAdd, Nat.reduceMul, Nat.reduceSub, Int.reduceToNat, Nat.reduceBEq, List.size_toArray, List.length_cons, List.length_nil, Bool.false_and, Bool.true_and, Bool.or_false, Bool.false_or, Bool.and_false, Bool.and_true], by simp (disch := first | (simp only [go_sem, Bool.and_self, eq_self]; done) | omega | (simp only [List.length_cons, List.length_nil]; omega)) only [go_sem, ↓reduceIte, Nat.reduceEqDiff, Nat.reduceAdd, Nat.reduceMul, Nat.reduceSub, Int.reduceToNat, Nat.reduceBEq, List.size_toArray, List.length_cons, List.length_nil, Bool.false_and, Bool.true_and, Bool.or_false, Bool.false_or, Bool.and_false, Bool.and_true], by simp (disch := first | (simp only [go_sem, Bool.and_self, eq_self]; done) | omega | (simp only [List.length_cons, List.length_nil]; omega)) only [go_sem, ↓reduceIte, Nat.reduceEqDiff, Nat.reduceAdd, Nat.reduceMul, Nat.reduceSub, Int.reduceToNat, Nat.reduceBEq, List.size_toArray, List.length_cons, List.length_nil, Bool.false_and, Bool.true_and, Bool.or_false, Bool.false_or, Bool.and_false, Bool.and_true], by simp (disch := first | (simp only [go_sem, Bool.and_self, eq_self]; done) | omega | (simp only [List.length_cons, List.length_nil]; omega)) only [go_sem, ↓reduceIte, Nat.reduceEqDiff, Nat.reduceAdd, Nat.reduceMul, Nat.reduceSub, Int.reduceToNat, Nat.reduceBEq, List.size_toArray, List.length_cons, List.length_nil, Bool.false_and, Bool.true_and, Bool.or_false, Bool.false_or, Bool.and_false, Bool.and_true], by omega⟩ ?_
  rintro i st h hi s11 ⟨s0, s1, s2, s3, s4, hn⟩
  by_cases hlt : i < a.length
  case neg =>
    have : pinB a cuts lock c d = false := by
      rw [pinB, List.any_eq_false]
      intro j hj
      have := hn j (by have := List.mem_range.1 hj; omega)
      simpa using this
    simp (disch := first | (simp only [go_sem, Bool.and_self, eq_self]; done) | omega | (simp only [List.length_cons, List.length_nil]; omega)) only [go_sem, ↓reduceIte, Nat.reduceEqDiff, Nat.reduceAdd, Nat.reduceMul, Nat.reduceSub, Int.reduceToNat, Nat.reduceBEq, List.size_toArray, List.length_cons, List.length_nil, Bool.false_and, Bool.true_and, Bool.or_false, Bool.false_or, Bool.and_false, Bool.and_true, s11, s0, s1, s2, s3, s4, hlt, this]
  have hli := hl i hlt
  have hci := hcc i hlt
  by_cases h1 : at2 a i lock = 1
  case neg =>
    simp (disch := first | (simp only [go_sem, Bool.and_self, eq_self]; done) | omega | (simp only [List.length_cons, List.length_nil]; omega)) only [go_sem, ↓reduceIte, Nat.reduceEqDiff, Nat.reduceAdd, Nat.reduceMul, Nat.reduceSub, Int.reduceToNat, Nat.reduceBEq, List.size_toArray, List.length_cons, List.length_nil, Bool.false_and, Bool.true_and, Bool.or_false, Bool.false_or, Bool.and_false, Bool.and_true, s11, s0, s1, s2, s3, s4, hlt, h1]
    rw [ForK_normal]
    refine ⟨hlt, by simp (disch := first | (simp only [go_sem, Bool.and_self, eq_self]; done) | omega | (simp only [List.length_cons, List.length_nil]; omega)) only [go_sem, ↓reduceIte, Nat.reduceEqDiff, Nat.reduceAdd, Nat.reduceMul, Nat.reduceSub, Int.reduceToNat, Nat.reduceBEq, List.size_toArray, List.length_cons, List.length_nil, Bool.false_and, Bool.true_and, Bool.or_false, Bool.false_or, Bool.and_false, Bool.and_true, s11], by simp (disch := first | (simp only [go_sem, Bool.and_self, eq_self]; done) | omega | (simp only [List.length_cons, List.length_nil]; omega)) only [go_sem, ↓reduceIte, Nat.reduceEqDiff, Nat.reduceAdd, Nat.reduceMul, Nat.reduceSub, Int.reduceToNat, Nat.reduceBEq, List.size_toArray, List.length_cons, List.length_nil, Bool.false_and, Bool.true_and, Bool.or_false, Bool.false_or, Bool.and_false, Bool.and_true, s0], by simp (disch := first | (simp only [go_sem, Bool.and_self, eq_self]; done) | omega | (simp only [List.length_cons, List.length_nil]; omega)) only [go_sem, ↓reduceIte, Nat.reduceEqDiff, Nat.reduceAdd, Nat.reduceMul, Nat.reduceSub, Int.reduceToNat, Nat.reduceBEq, List.size_toArray, List.length_cons, List.length_nil, Bool.false_and, Bool.true_and, Bool.or_false, Bool.false_or, Bool.and_false, Bool.and_true, s1], by simp (disch := first | (simp only [go_sem, Bool.and_self, eq_self]; done) | omega | (simp only [List.length_cons, List.length_nil]; omega)) only [go_sem, ↓reduceIte, Nat.reduceEqDiff, Nat.reduceAdd, Nat.reduceMul, Nat.reduceSub, Int.reduceToNat, Nat.reduceBEq, List.size_toArray, List.length_cons, List.length_nil, Bool.false_and, Bool.true_and, Bool.or_false, Bool.false_or, Bool.and_false, Bool.and_true, s2], by simp (disch := first | (simp only [go_sem, Bool.and_self, eq_self]; done) | omega | (simp only [List.length_cons, List.length_nil]; omega)) only [go_sem, ↓reduceIte, Nat.reduceEqDiff, Nat.reduceAdd, Nat.reduceMul, Nat.reduceSub, Int.reduceToNat, Nat.reduceBEq, List.size_toArray, List.length_cons, List.length_nil, Bool.false_and, Bool.true_and, Bool.or_false, Bool.false_or, Bool.and_false, Bool.and_true, s3], by simp (disch := first | (simp only [go_sem, Bool.and_self, eq_self]; done) | omega | (simp only [List.length_cons, List.length_nil]; omega)) only [go_sem, ↓reduceIte, Nat.reduceEqDiff, Nat.reduceAdd, Nat.reduceMul, Nat.reduceSub, Int.reduceToNat, Nat.reduceBEq, List.size_toArray, List.length_cons, List.length_nil, Bool.false_and, Bool.true_and, Bool.or_false, Bool.false_or, Bool.and_false, Bool.and_true, s4], fun j hj => ?_⟩
    rcases Nat.lt_or_ge j i with hj' | hj'
    · exact hn j hj'
    · rw [show j = i by omega]; exact fun h => h1 h.1
  by_cases h2 : at2 cuts i c = d
  case neg =>
    simp (disch := first | (simp only [go_sem, Bool.and_self, eq_self]; done) | omega | (simp only [List.length_cons, List.length_nil]; omega)) only [go_sem, ↓reduceIte, Nat.reduceEqDiff, Nat.reduceAdd, Nat.reduceMul, Nat.reduceSub, Int.reduceToNat, Nat.reduceBEq, List.size_toArray, List.length_cons, List.length_nil, Bool.false_and, Bool.true_and, Bool.or_false, Bool.false_or, Bool.and_false, Bool.and_true, s11, s0, s1, s2, s3, s4, hlt, h1, h2]
    rw [ForK_normal]
    refine ⟨hlt, by simp (disch := first | (simp only [go_sem, Bool.and_self, eq_self]; done) | omega | (simp only [List.length_cons, List.length_nil]; omega)) only [go_sem, ↓reduceIte, Nat.reduceEqDiff, Nat.reduceAdd, Nat.reduceMul, Nat.reduceSub, Int.reduceToNat, Nat.reduceBEq, List.size_toArray, List.length_cons, List.length_nil, Bool.false_and, Bool.true_and, Bool.or_false, Bool.false_or, Bool.and_false, Bool.and_true, s11], by simp (disch := first | (simp only [go_sem, Bool.and_self, eq_self]; done) | omega | (simp only [List.length_cons, List.length_nil]; omega)) only [go_sem, ↓reduceIte, Nat.reduceEqDiff, Nat.reduceAdd, Nat.reduceMul, Nat.reduceSub, Int.reduceToNat, Nat.reduceBEq, List.size_toArray, List.length_cons, List.length_nil, Bool.false_and, Bool.true_and, Bool.or_false, Bool.false_or, Bool.and_false, Bool.and_true, s0], by simp (disch := first | (simp only [go_sem, Bool.and_self, eq_self]; done) | omega | (simp only [List.length_cons, List.length_nil]; omega)) only [go_sem, ↓reduceIte, Nat.reduceEqDiff, Nat.reduceAdd, Nat.reduceMul, Nat.reduceSub, Int.reduceToNat, Nat.reduceBEq, List.size_toArray, List.length_cons, List.length_nil, Bool.false_and, Bool.true_and, Bool.or_false, Bool.false_or, Bool.and_false, Bool.and_true, s1], by simp (disch := first | (simp only [go_sem, Bool.and_self, eq_self]; done) | omega | (simp only [List.length_cons, List.length_nil]; omega)) only [go_sem, ↓reduceIte, Nat.reduceEqDiff, Nat.reduceAdd, Nat.reduceMul, Nat.reduceSub, Int.reduceToNat, Nat.reduceBEq, List.size_toArray, List.length_cons, List.length_nil, Bool.false_and, Bool.true_and, Bool.or_false, Bool.false_or, Bool.and_false, Bool.and_true, s2], by simp (disch := first | (simp only [go_sem, Bool.and_self, eq_self]; done) | omega | (simp only [List.length_cons, List.length_nil]; omega)) only [go_sem, ↓reduceIte, Nat.reduceEqDiff, Nat.reduceAdd, Nat.reduceMul, Nat.reduceSub, Int.reduceToNat, Nat.reduceBEq, List.size_toArray, List.length_cons, List.length_nil, Bool.false_and, Bool.true_and, Bool.or_false, Bool.false_or, Bool.and_false, Bool.and_true, s3], by simp (disch := first | (simp only [go_sem, Bool.and_self, eq_self]; done) | omega | (simp only [List.length_cons, List.length_nil]; omega)) only [go_sem, ↓reduceIte, Nat.reduceEqDiff, Nat.reduceAdd, Nat.reduceMul, Nat.reduceSub, Int.reduceToNat, Nat.reduceBEq, List.size_toArray, List.length_cons, List.length_nil, Bool.false_and, Bool.true_and, Bool.or_false, Bool.false_or, Bool.and_false, Bool.and_true, s4], fun j hj => ?_⟩
    rcases Nat.lt_or_ge j i with hj' | hj'
    · exact hn j hj'
    · rw [show j = i by omega]; exact fun h => h2 h.2
  have : pinB a cuts lock c d = true := by
    rw [pinB, List.any_eq_true]
    exact ⟨i, List.mem_range.2 hlt, by simp [h1, h2]⟩
  simp (disch := first | (simp only [go_sem, Bool.and_self, eq_self]; done) | omega | (simp only [List.length_cons, List.length_nil]; omega)) only [go_sem, ↓reduceIte, Nat.reduceEqDiff, Nat.reduceAdd, Nat.reduceMul, Nat.reduceSub, Int.reduceToNat, Nat.reduceBEq, List.size_toArray, List.length_cons, List.length_nil, Bool.false_and, Bool.true_and, Bool.or_false, Bool.false_or, Bool.and_false, Bool.and_true, s11, s0, s1, s2, s3, s4, hlt, h1, h2, this]
theorem k36 (a cuts : List (List Int)) (lock c : Nat) (d : Int) (ha : okLL a) (hl : ∀ i, i < a.length → lock < (nth a i).length) (hc : cuts.length = a.length) (hcc : ∀ i, i < a.length → c < (nth cuts i).length)
    (hb1 : lock ≤ 9223372036854775807) (hb2 : c ≤ 9223372036854775807) : ConW Try.prog cfg 36 h (some ([LLI a, LLI cuts, I lock, I c, I d], h')) K = K (.bool (pinB a cuts lock c d)) h := ConW_num (f36_con a cuts lock c d ha hl hc hcc hb1 hb2) rfl

/-- A key with these depths opens the lock. -/
def opensB (a cuts : List (List Int)) (key : List Int) (lock : Nat) : Bool := (List.range key.length).all fun c => pinB a cuts lock c (nth key c)

theorem f15_con (a cuts : List (List Int)) (key : List Int) (lock : Nat) (ha : okLL a) (hl : ∀ i, i < a.length → lock < (nth a i).length) (hc : cuts.length = a.length) (hcc : ∀ i, i < a.length → key.length ≤ (nth cuts i).length)
    (hb1 : lock ≤ 9223372036854775807) (hb2 : key.length ≤ 9223372036854775807) : Con Try.prog cfg 15 [LLI a, LLI cuts, LI key, I lock] (.bool (opensB a cuts key lock)) := by
  refine Con_intro Try.func15 rfl ok15 (Nat.le_of_ble_eq_true rfl) rfl ?_
  simp only [Try.f15, Option.getD_some, initSt4]
  simp (disch := first | (simp only [go_sem, Bool.and_self, eq_self]; done) | omega | (simp only [List.length_cons, List.length_nil]; omega)) only [go_sem, ↓reduceIte, Nat.reduceEqDiff, Nat.reduceAdd, Nat.reduceMul, Nat.reduceSub, Int.reduceToNat, Nat.reduceBEq, List.size_toArray, List.length_cons, List.length_nil, Bool.false_and, Bool.true_and, Bool.or_false, Bool.false_or, Bool.and_false, Bool.and_true]
  refine WP_for 9 key.length (fun i st h => st 0 = LLI a ∧ st 1 = LLI cuts ∧ st 2 = LI key ∧ st 3 = I lock ∧ ∀ j, j < i → pinB a cuts lock j (nth key j) = true) (by simp (disch := first | (simp only [go_sem, Bool.and_self, eq_self]; done) | omega | (simp only [List.length_cons, List.length_nil]; omega)) only [go_sem, ↓reduceIte, Nat.reduceEqDiff, Nat.reduceAdd, Nat.reduceMul, Nat.reduceSub, Int.reduceToNat, Nat.reduceBEq, List.size_toArray, List.length_cons, List.length_nil, Bool.false_and, Bool.true_and, Bool.or_false, Bool.false_or, Bool.and_false, Bool.and_true]) ⟨by simp (disch := first | (simp only [go_sem, Bool.and_self, eq_self]; done) | omega | (simp only [List.length_cons, List.length_nil]; omega)) only [go_sem, ↓reduceIte, Nat.reduceEqDiff, Nat.reduceAdd, Nat.reduceMul, Nat.reduceSub, Int.reduceToNat, Nat.reduceBEq, List.size_toArray, List.length_cons, List.length_nil, Bool.false_and, Bool.true_and, Bool.or_false, Bool.false_or, Bool.and_false, Bool.and_true], by simp (disch := first | (simp only [go_sem, Bool.and_self, eq_self]; done) | omega | (simp only [List.length_cons, List.length_nil]; omega)) only [go_sem, ↓reduceIte, Nat.reduceEqDiff, Nat.reduceAdd, Nat.reduceMul, Nat.reduceSub, Int.reduceToNat, Nat.reduceBEq, List.size_toArray, List.length_cons, List.length_nil, Bool.false_and, Bool.true_and, Bool.or_false, Bool.false_or, Bool.and_false, Bool.and_true], by simp (disch := first | (simp only [go_sem, Bool.and_self, eq_self]; done) | omega | (simp only [List.length_cons, List.length_nil]; omega)) only [go_sem, ↓reduceIte, Nat.reduceEqDiff, Nat.reduceAdd, Nat.reduceMul, Nat.reduceSub, Int.reduceToNat, Nat.reduceBEq, List.size_toArray, List.length_cons, List.length_nil, Bool.false_and, Bool.true_and, Bool.or_false, Bool.false_or, Bool.and_false, Bool.and_true], by simp (disch := first | (simp only [go_sem, Bool.and_self, eq_self]; done) | omega | (simp only [List.length_cons, List.length_nil]; omega)) only [go_sem, ↓reduceIte, Nat.reduceEqDiff, Nat.reduceAdd, Nat.reduceMul, Nat.reduceSub, Int.reduceToNat, Nat.reduceBEq, List.size_toArray, List.length_cons, List.length_nil, Bool.false_and, Bool.true_and, Bool.or_false, Bool.false_or, Bool.and_false, Bool.and_true], by omega⟩ ?_
  rintro i st h hi s9 ⟨s0, s1, s2, s3, hn⟩
  by_cases hlt : i < key.length
  case neg =>
    have : opensB a cuts key lock = true := by
      rw [opensB, List.all_eq_true]
      intro j hj
      exact hn j (by have := List.mem_range.1 hj; omega)
    simp (disch := first | (simp only [go_sem, Bool.and_self, eq_self]; done) | omega | (simp only [List.length_cons, List.length_nil]; omega)) only [go_sem, ↓reduceIte, Nat.reduceEqDiff, Nat.reduceAdd, Nat.reduceMul, Nat.reduceSub, Int.reduceToNat, Nat.reduceBEq, List.size_toArray, List.length_cons, List.length_nil, Bool.false_and, Bool.true_and, Bool.or_false, Bool.false_or, Bool.and_false, Bool.and_true, s9, s0, s1, s2, s3, hlt, this]
  have kk := fun h h' K => k36 (h := h) (h' := h') (K := K) a cuts lock i (nth key i) ha hl hc (fun j hj => by have := hcc j hj; omega) hb1 (by omega)
  cases hp : pinB a cuts lock i (nth key i) with
  | false =>
    have : opensB a cuts key lock = false := by
      rw [opensB, List.all_eq_false]
      exact ⟨i, List.mem_range.2 hlt, by simp [hp]⟩
    simp (disch := first | (simp only [go_sem, Bool.and_self, eq_self]; done) | omega | (simp only [List.length_cons, List.length_nil]; omega)) only [go_sem, ↓reduceIte, Nat.reduceEqDiff, Nat.reduceAdd, Nat.reduceMul, Nat.reduceSub, Int.reduceToNat, Nat.reduceBEq, List.size_toArray, List.length_cons, List.length_nil, Bool.false_and, Bool.true_and, Bool.or_false, Bool.false_or, Bool.and_false, Bool.and_true, s9, s0, s1, s2, s3, hlt, kk, hp, this]
  | true =>
    simp (disch := first | (simp only [go_sem, Bool.and_self, eq_self]; done) | omega | (simp only [List.length_cons, List.length_nil]; omega)) only [go_sem, ↓reduceIte, Nat.reduceEqDiff, Nat.reduceAdd, Nat.reduceMul, Nat.reduceSub, Int.reduceToNat, Nat.reduceBEq, List.size_toArray, List.length_cons, List.length_nil, Bool.false_and, Bool.true_and, Bool.or_false, Bool.false_or, Bool.and_false, Bool.and_true, s9, s0, s1, s2, s3, hlt, kk, hp]
    rw [ForK_normal]
    refine ⟨hlt, by simp (disch := first | (simp only [go_sem, Bool.and_self, eq_self]; done) | omega | (simp only [List.length_cons, List.length_nil]; omega)) only [go_sem, ↓reduceIte, Nat.reduceEqDiff, Nat.reduceAdd, Nat.reduceMul, Nat.reduceSub, Int.reduceToNat, Nat.reduceBEq, List.size_toArray, List.length_cons, List.length_nil, Bool.false_and, Bool.true_and, Bool.or_false, Bool.false_or, Bool.and_false, Bool.and_true, s9], by simp (disch := first | (simp only [go_sem, Bool.and_self, eq_self]; done) | omega | (simp only [List.length_cons, List.length_nil]; omega)) only [go_sem, ↓reduceIte, Nat.reduceEqDiff, Nat.reduceAdd, Nat.reduceMul, Nat.reduceSub, Int.reduceToNat, Nat.reduceBEq, List.size_toArray, List.length_cons, List.length_nil, Bool.false_and, Bool.true_and, Bool.or_false, Bool.false_or, Bool.and_false, Bool.and_true, s0], by simp (disch := first | (simp only [go_sem, Bool.and_self, eq_self]; done) | omega | (simp only [List.length_cons, List.length_nil]; omega)) only [go_sem, ↓reduceIte, Nat.reduceEqDiff, Nat.reduceAdd, Nat.reduceMul, Nat.reduceSub, Int.reduceToNat, Nat.reduceBEq, List.size_toArray, List.length_cons, List.length_nil, Bool.false_and, Bool.true_and, Bool.or_false, Bool.false_or, Bool.and_false, Bool.and_true, s1], by simp (disch := first | (simp only [go_sem, Bool.and_self, eq_self]; done) | omega | (simp only [List.length_cons, List.length_nil]; omega)) only [go_sem, ↓reduceIte, Nat.reduceEqDiff, Nat.reduceAdd, Nat.reduceMul, Nat.reduceSub, Int.reduceToNat, Nat.reduceBEq, List.size_toArray, List.length_cons, List.length_nil, Bool.false_and, Bool.true_and, Bool.or_false, Bool.false_or, Bool.and_false, Bool.and_true, s2], by simp (disch := first | (simp only [go_sem, Bool.and_self, eq_self]; done) | omega | (simp only [List.length_cons, List.length_nil]; omega)) only [go_sem, ↓reduceIte, Nat.reduceEqDiff, Nat.reduceAdd, Nat.reduceMul, Nat.reduceSub, Int.reduceToNat, Nat.reduceBEq, List.size_toArray, List.length_cons, List.length_nil, Bool.false_and, Bool.true_and, Bool.or_false, Bool.false_or, Bool.and_false, Bool.and_true, s3], fun j hj => ?_⟩
    rcases Nat.lt_or_ge j i with hj' | hj'
    · exact hn j hj'
    · rw [show j = i by omega]; exact hp
theorem k15 (a cuts : List (List Int)) (key : List Int) (lock : Nat) (ha : okLL a) (hl : ∀ i, i < a.length → lock < (nth a i).length) (hc : cuts.length = a.length) (hcc : ∀ i, i < a.length → key.length ≤ (nth cuts i).length)
    (hb1 : lock ≤ 9223372036854775807) (hb2 : key.length ≤ 9223372036854775807) : ConW Try.prog cfg 15 h (some ([LLI a, LLI cuts, LI key, I lock], h')) K = K (.bool (opensB a cuts key lock)) h := ConW_num (f15_con a cuts key lock ha hl hc hcc hb1 hb2) rfl
end Go.Proofs.Ytkjdnnedncomgaa

set_option linter.unusedVariables false
set_option linter.unusedSimpArgs false
set_option maxRecDepth 10000
namespace Go.Proofs.Ytkjdnnedncomgaa
open Go Go.Am

variable {h h' : Hp} {K : AV → Hp → Prop}

/-- An access plan and cuts for it. -/
structure Fit (a cuts : List (List Int)) (d : Int) : Prop where
  keys : 1 ≤ a.length ∧ a.length ≤ 6
  locks : 1 ≤ (nth a 0).length ∧ (nth a 0).length ≤ 6
  row : ∀ i, i < a.length → (nth a i).length = (nth a 0).length
  bit : ∀ i j, i < a.length → j < (nth a 0).length → at2 a i j = 0 ∨ at2 a i j = 1
  depth : 1 ≤ d ∧ d ≤ 4
  same : cuts.length = a.length
  cham : 1 ≤ (nth cuts 0).length ∧ (nth cuts 0).length ≤ 4
  crow : ∀ i, i < a.length → (nth cuts i).length = (nth cuts 0).length
  cut : ∀ i c, i < a.length → c < (nth cuts 0).length → 1 ≤ at2 cuts i c ∧ at2 cuts i c ≤ d

theorem all_nth {α : Type} [Inhabited α] {p : α → Bool} {xs : List α} (h : xs.all p = true) {i : Nat} (hi : i < xs.length) : p (nth xs i) = true := List.all_eq_true.1 h _ (nth_mem hi)

theorem Fit.of {a cuts : List (List Int)} {d : Int} (h1 : isPlanB a = true) (h2 : areCutsB cuts a.length d = true) : Fit a cuts d := by
  simp only [isPlanB, areCutsB, Bool.and_eq_true, decide_eq_true_eq] at h1 h2
  obtain ⟨⟨k1, k2⟩, k3⟩ := h1
  obtain ⟨⟨⟨c1, c2⟩, c3⟩, c4⟩ := h2
  have hl : cuts.length = a.length := by omega
  refine ⟨k1, k2, fun i hi => ?_, fun i j hi hj => ?_, c1, hl, c3, fun i hi => ?_, fun i c hi hc => ?_⟩
  · have := all_nth k3 hi
    simp only [Bool.and_eq_true, decide_eq_true_eq] at this
    exact this.1
  · have := all_nth k3 hi
    simp only [Bool.and_eq_true, decide_eq_true_eq] at this
    have := all_nth this.2 (i := j) (by omega)
    simp only [decide_eq_true_eq] at this
    show nth (nth a i) j = 0 ∨ nth (nth a i) j = 1
    omega
  · have := all_nth c4 (i := i) (by omega)
    simp only [Bool.and_eq_true, decide_eq_true_eq] at this
    exact this.1
  · have := all_nth c4 (i := i) (by omega)
    simp only [Bool.and_eq_true, decide_eq_true_eq] at this
    have := all_nth this.2 (i := c) (by omega)
    simpa only [decide_eq_true_eq] using this

theorem Fit.okA {a cuts : List (List Int)} {d : Int} (f : Fit a cuts d) : okLL a := by
  refine ⟨by have := f.keys; omega, fun r hr => ?_⟩
  obtain ⟨i, hi, rfl⟩ := List.getElem_of_mem hr
  have := f.row i hi
  rw [nth_getElem hi] at this
  have := f.locks
  omega
theorem Fit.okC {a cuts : List (List Int)} {d : Int} (f : Fit a cuts d) : okLL cuts := by
  have hs := f.same
  refine ⟨by have := f.keys; omega, fun r hr => ?_⟩
  obtain ⟨i, hi, rfl⟩ := List.getElem_of_mem hr
  have := f.crow i (by omega)
  rw [nth_getElem hi] at this
  have := f.cham
  omega

/-- The pins of a lock in one chamber, by the first n keys, as bits. -/
def maskN (a cuts : List (List Int)) (lock c : Nat) : Nat → Nat
  | 0 => 0
  | n + 1 => if at2 a n lock = 0 then maskN a cuts lock c n else maskN a cuts lock c n ||| 2 ^ (at2 cuts n c).toNat

theorem maskN_lt {a cuts : List (List Int)} {d : Int} (f : Fit a cuts d) {lock c : Nat} (hc : c < (nth cuts 0).length) : ∀ {n : Nat}, n ≤ a.length → maskN a cuts lock c n < 2 ^ 5
  | 0, _ => by simp [maskN]
  | n + 1, hn => by
    have ih := maskN_lt f (lock := lock) hc (n := n) (by omega)
    rw [maskN]
    split
    · exact ih
    · have := f.cut n c (by omega) hc
      have := f.depth
      exact Nat.or_lt_two_pow ih (Nat.pow_lt_pow_right (by omega) (by omega))

theorem maskN_bit {a cuts : List (List Int)} {d : Int} (f : Fit a cuts d) {lock c : Nat} (hl : lock < (nth a 0).length) (hc : c < (nth cuts 0).length) (e : Nat) : (maskN a cuts lock c a.length).testBit e = pinB a cuts lock c e := by
  have : ∀ n, n ≤ a.length → (maskN a cuts lock c n).testBit e = (List.range n).any fun i => decide (at2 a i lock = 1) && decide (at2 cuts i c = e) := by
    intro n
    induction n with
    | zero => intro _; simp [maskN]
    | succ n ih =>
      intro hn
      rw [List.range_succ, List.any_append, ← ih (by omega)]
      have hb := f.bit n lock (by omega) hl
      have hcu := f.cut n c (by omega) hc
      simp only [List.any_cons, List.any_nil, Bool.or_false, maskN]
      split
      · rename_i h0
        simp [h0]
      · rename_i h0
        have h1 : at2 a n lock = 1 := by omega
        rw [Nat.testBit_or, Nat.testBit_two_pow, h1]
        simp only [decide_true, Bool.true_and]
        congr 1
        rw [decide_eq_decide]
        omega
  exact this _ (Nat.le_refl _)

end Go.Proofs.Ytkjdnnedncomgaa

set_option linter.unusedVariables false
set_option linter.unusedSimpArgs false
set_option maxRecDepth 10000
namespace Go.Proofs.Ytkjdnnedncomgaa
open Go Go.Am

/-- The pairs that a number stands for. -/
def bits (X : Nat) (p : Nat → Nat → Bool) : Prop := ∀ k j, j < 6 → X.testBit (k * 6 + j) = p k j
theorem bits_ext {X Y : Nat} {p : Nat → Nat → Bool} (hX : bits X p) (hY : bits Y p) : X = Y := by
  refine Nat.eq_of_testBit_eq fun e => ?_
  have := hX (e / 6) (e % 6) (Nat.mod_lt _ (by decide))
  have h2 := hY (e / 6) (e % 6) (Nat.mod_lt _ (by decide))
  rw [show e / 6 * 6 + e % 6 = e by omega] at this h2
  rw [this, h2]
theorem bits_congr {X : Nat} {p q : Nat → Nat → Bool} (hX : bits X p) (h : ∀ k j, j < 6 → p k j = q k j) : bits X q := fun k j hj => (hX k j hj).trans (h k j hj)
theorem bits_or {X : Nat} {p : Nat → Nat → Bool} (hX : bits X p) {k0 j0 : Nat} (h0 : j0 < 6) : bits (X ||| 2 ^ (k0 * 6 + j0)) fun k j => p k j || (decide (k = k0) && decide (j = j0)) := by
  intro k j hj
  rw [Nat.testBit_or, hX k j hj, Nat.testBit_two_pow]
  congr 1
  rw [← Bool.decide_and, decide_eq_decide]
  omega
theorem bits_lt {X : Nat} {p : Nat → Nat → Bool} (hX : bits X p) (h : ∀ k j, j < 6 → p k j = true → k < 6) : X < 2 ^ 36 := by
  refine Nat.lt_pow_two_of_testBit (n := 36) _ fun i hi => ?_
  have := hX (i / 6) (i % 6) (Nat.mod_lt _ (by decide))
  rw [show i / 6 * 6 + i % 6 = i by omega] at this
  rw [this]
  cases hp : p (i / 6) (i % 6) with
  | false => rfl
  | true => have := h _ _ (Nat.mod_lt _ (by decide)) hp; omega

/-- The number of a set. -/
def maskE (p : Nat → Nat → Bool) : Nat → Nat
  | 0 => 0
  | e + 1 => if p (e / 6) (e % 6) then maskE p e ||| 2 ^ e else maskE p e
def maskB (p : Nat → Nat → Bool) : Nat := maskE p 36
theorem maskE_bit (p : Nat → Nat → Bool) (i : Nat) : ∀ e, (maskE p e).testBit i = (decide (i < e) && p (i / 6) (i % 6)) := by
  intro e
  induction e with
  | zero => simp [maskE]
  | succ e ih =>
    rw [maskE]
    by_cases h : p (e / 6) (e % 6) = true
    · rw [if_pos h, Nat.testBit_or, ih, Nat.testBit_two_pow]
      by_cases h1 : i = e
      · subst h1; simp [h]
      · rcases Nat.lt_or_ge i e with h2 | h2
        · simp [h2, show i < e + 1 by omega, show ¬ e = i by omega]
        · simp [show ¬ i < e by omega, show ¬ i < e + 1 by omega, show ¬ e = i by omega]
    · rw [if_neg h, ih]
      by_cases h1 : i = e
      · subst h1; simp [h]
      · rcases Nat.lt_or_ge i e with h2 | h2
        · simp [h2, show i < e + 1 by omega]
        · simp [show ¬ i < e by omega, show ¬ i < e + 1 by omega]
theorem bits_mask (p : Nat → Nat → Bool) : bits (maskB p) fun k j => decide (k < 6) && p k j := by
  intro k j hj
  rw [maskB, maskE_bit, show (k * 6 + j) / 6 = k by omega, show (k * 6 + j) % 6 = j by omega]
  congr 1
  rw [decide_eq_decide]; omega
theorem bits_maskB {p : Nat → Nat → Bool} (h : ∀ k j, p k j = true → k < 6) : bits (maskB p) p := by
  refine bits_congr (bits_mask p) fun k j hj => ?_
  cases hp : p k j with
  | false => simp
  | true => simp [h k j hp]

/-- A part of. -/
def Sub (s t : Nat) : Prop := ∀ i, s.testBit i = true → t.testBit i = true
theorem Sub.refl (s : Nat) : Sub s s := fun _ h => h
theorem Sub.trans {s t u : Nat} (h : Sub s t) (k : Sub t u) : Sub s u := fun i hi => k i (h i hi)
theorem diffN_zero {s t : Nat} : diffN s t = 0 ↔ Sub s t := by
  constructor
  · intro h i hi
    have := diffN_bit s t i
    rw [h, Nat.zero_testBit, hi] at this
    simpa using this.symm
  · intro h
    refine Nat.eq_of_testBit_eq fun i => ?_
    rw [diffN_bit, Nat.zero_testBit]
    cases hs : s.testBit i with
    | false => rfl
    | true => rw [h i hs]; rfl
instance (s t : Nat) : Decidable (Sub s t) := decidable_of_iff (diffN s t = 0) diffN_zero

/-! ### One chamber -/
/-- One chamber, as cuts. -/
def col (a : List (List Int)) (x : List Int) : List (List Int) := (List.range a.length).map fun i => [nth x i]
theorem col_len (a : List (List Int)) (x : List Int) : (col a x).length = a.length := by simp [col]
theorem col_nth {a : List (List Int)} {x : List Int} {i : Nat} (hi : i < a.length) : nth (col a x) i = [nth x i] := nth_map_range _ _ _ hi
theorem col_at {a : List (List Int)} {x : List Int} {i : Nat} (hi : i < a.length) : at2 (col a x) i 0 = nth x i := by unfold at2; rw [col_nth hi]; rfl

structure Pl (a : List (List Int)) : Prop where
  keys : 1 ≤ a.length ∧ a.length ≤ 6
  locks : 1 ≤ (nth a 0).length ∧ (nth a 0).length ≤ 6
  row : ∀ i, i < a.length → (nth a i).length = (nth a 0).length
  bit : ∀ i j, i < a.length → j < (nth a 0).length → at2 a i j = 0 ∨ at2 a i j = 1
theorem Pl.of {a : List (List Int)} (h1 : isPlanB a = true) : Pl a := by
  simp only [isPlanB, Bool.and_eq_true, decide_eq_true_eq] at h1
  obtain ⟨⟨k1, k2⟩, k3⟩ := h1
  refine ⟨k1, k2, fun i hi => ?_, fun i j hi hj => ?_⟩
  · have := all_nth k3 hi
    simp only [Bool.and_eq_true, decide_eq_true_eq] at this
    exact this.1
  · have := all_nth k3 hi
    simp only [Bool.and_eq_true, decide_eq_true_eq] at this
    have := all_nth this.2 (i := j) (by omega)
    simp only [decide_eq_true_eq] at this
    show nth (nth a i) j = 0 ∨ nth (nth a i) j = 1
    omega
theorem Pl.okA {a : List (List Int)} (f : Pl a) : okLL a := by
  refine ⟨by have := f.keys; omega, fun r hr => ?_⟩
  obtain ⟨i, hi, rfl⟩ := List.getElem_of_mem hr
  have := f.row i hi
  rw [nth_getElem hi] at this
  have := f.locks
  omega
/-- Depths of the first keys. -/
def Dep (x : List Int) (n : Nat) (d : Int) : Prop := ∀ i, i < n → 1 ≤ nth x i ∧ nth x i ≤ d
theorem Pl.fit {a : List (List Int)} (f : Pl a) {x : List Int} {d : Int} (hd : 1 ≤ d ∧ d ≤ 4) (hx : Dep x a.length d) : Fit a (col a x) d := by
  have hk := f.keys
  have h0 : (nth (col a x) 0).length = 1 := by rw [col_nth (by omega)]; rfl
  refine ⟨f.keys, f.locks, f.row, f.bit, hd, col_len _ _, by omega, fun i hi => ?_, fun i c hi hc => ?_⟩
  · rw [h0, col_nth hi]; rfl
  · rw [h0] at hc
    rw [show c = 0 by omega, col_at hi]
    exact hx i hi

/-- Key k is kept from lock j: its depth is not among the pins. -/
def barB (a : List (List Int)) (x : List Int) (k j : Nat) : Bool := !pinB a (col a x) j 0 (nth x k)
def blkP (a : List (List Int)) (x : List Int) (k j : Nat) : Bool := decide (k < a.length) && decide (j < (nth a 0).length) && barB a x k j
/-- All pairs that one chamber keeps apart. -/
def blk (a : List (List Int)) (x : List Int) : Nat := maskB (blkP a x)
def badP (a : List (List Int)) (k j : Nat) : Bool := decide (k < a.length) && decide (j < (nth a 0).length) && decide (at2 a k j = 0) && (List.range a.length).any fun o => decide (at2 a o j = 1)
/-- The pairs that must be kept apart. -/
def badM (a : List (List Int)) : Nat := maskB (badP a)
section
variable {a : List (List Int)} (f : Pl a)
include f
theorem blk_bits (x : List Int) : bits (blk a x) (blkP a x) := bits_maskB fun k j h => by
  have := f.keys
  simp only [blkP, Bool.and_eq_true, decide_eq_true_eq] at h; omega
theorem bad_bits : bits (badM a) (badP a) := bits_maskB fun k j h => by
  have := f.keys
  simp only [badP, Bool.and_eq_true, decide_eq_true_eq] at h; omega
theorem blk_lt (x : List Int) : blk a x < 2 ^ 36 := bits_lt (blk_bits f x) fun k j _ h => by
  have := f.keys
  simp only [blkP, Bool.and_eq_true, decide_eq_true_eq] at h; omega
theorem bad_lt : badM a < 2 ^ 36 := bits_lt (bad_bits f) fun k j _ h => by
  have := f.keys
  simp only [badP, Bool.and_eq_true, decide_eq_true_eq] at h; omega
end
end Go.Proofs.Ytkjdnnedncomgaa

set_option linter.unusedVariables false
set_option linter.unusedSimpArgs false
set_option maxRecDepth 10000
namespace Go.Proofs.Ytkjdnnedncomgaa
open Go Go.Am

variable {h h' : Hp} {K : AV → Hp → Prop}

/-- A colouring: six numbers. -/
def pad6 (x : List Int) : List Int := (List.range 6).map fun i => nth x i
theorem pad6_len (x : List Int) : (pad6 x).length = 6 := by simp [pad6]
theorem pad6_nth {x : List Int} {i : Nat} (hi : i < 6) : nth (pad6 x) i = nth x i := nth_map_range _ _ _ hi
def eC (x : List Int) : List AV := (pad6 x).flatMap (e1 I)
instance : RowEnc eC 6 := ⟨fun x => by rw [eC, flat_len, pad6_len], by decide, fun x => flatMap_cell _, fun x => pureL_flatMap _⟩
theorem eC_get {x : List Int} {i : Nat} (hi : i < 6) : (eC x)[i]? = some (I (nth x i)) := by
  rw [eC, flat_get I _ _ (by rw [pad6_len]; exact hi), pad6_nth hi]
def eO (p : Nat × List Int) : List AV := I p.1 :: eC p.2
instance : RowEnc eO 7 := ⟨fun x => by simp [eO, RowEnc.len (f := eC)], by decide, fun x a ha => by
  rcases List.mem_cons.1 ha with rfl | ha
  · rfl
  · exact RowEnc.cell (f := eC) _ a ha, fun x => by rw [eO, AV.pureL, RowEnc.pure (f := eC)]; rfl⟩

theorem f59_con (k j : Nat) (hk : k < 6) (hj : j < 6) : Con Try.prog cfg 59 [I k, I j] (I ((2 ^ (k * 6 + j) : Nat) : Int)) := by
  refine Con_intro Try.func59 rfl ok59 (Nat.le_of_ble_eq_true rfl) rfl ?_
  simp only [Try.f59, Option.getD_some, initSt2]
  have e : ((k : Int) * 6 + (j : Int)) = ((k * 6 + j : Nat) : Int) := by omega
  have hs := shl_one (P := Try.prog) 80 (k * 6 + j) (by omega)
  simp (disch := first | (simp only [go_sem, Bool.and_self, eq_self]; done) | omega | (simp only [List.length_cons, List.length_nil]; omega)) only [go_sem, ↓reduceIte, Nat.reduceEqDiff, Nat.reduceAdd, Nat.reduceMul, Nat.reduceSub, Int.reduceToNat, Nat.reduceBEq, List.size_toArray, List.length_cons, List.length_nil, Bool.false_and, Bool.true_and, Bool.or_false, Bool.false_or, Bool.and_false, Bool.and_true, e, hs]
theorem k59 (k j : Nat) (hk : k < 6) (hj : j < 6) : ConW Try.prog cfg 59 h (some ([I k, I j], h')) K = K (I ((2 ^ (k * 6 + j) : Nat) : Int)) h := ConW_num (f59_con k j hk hj) rfl

theorem pow36 {k j : Nat} (hk : k < 6) (hj : j < 6) : 2 ^ (k * 6 + j) < 2 ^ 36 := Nat.pow_lt_pow_right (by decide) (by omega)

theorem f58_con {a : List (List Int)} (f : Pl a) {x : List Int} {d : Int} (hd : 1 ≤ d ∧ d ≤ 4) (hx : Dep x a.length d) : Con Try.prog cfg 58 [LLI a, .agg (eC x)] (I (blk a x)) := by
  have ft := f.fit hd hx
  have hk := f.keys
  have hlo := f.locks
  have hal := fun h : Hp => allocB_row (f := eC) (h := h) x
  refine Con_intro Try.func58 rfl ok58 (Nat.le_of_ble_eq_true rfl) rfl ?_
  simp only [Try.f58, Option.getD_some, initSt2]
  simp (disch := first | (simp only [go_sem, Bool.and_self, eq_self]; done) | omega | (simp only [List.length_cons, List.length_nil]; omega)) only [go_sem, ↓reduceIte, Nat.reduceEqDiff, Nat.reduceAdd, Nat.reduceMul, Nat.reduceSub, Int.reduceToNat, Nat.reduceBEq, List.size_toArray, List.length_cons, List.length_nil, Bool.false_and, Bool.true_and, Bool.or_false, Bool.false_or, Bool.and_false, Bool.and_true, hal]
  refine WP_for 15 (nth a 0).length (fun j st h => st 0 = LLI a ∧ st 3 = .ptr 0 0 ∧ st 14 = I (nth a 0).length ∧ h.nx = 1 ∧ h.bl 0 = some (.cells false false (eC x)) ∧ ∃ X : Nat, st 5 = I X ∧ bits X fun k j' => blkP a x k j' && decide (j' < j))
    (by simp (disch := first | (simp only [go_sem, Bool.and_self, eq_self]; done) | omega | (simp only [List.length_cons, List.length_nil]; omega)) only [go_sem, ↓reduceIte, Nat.reduceEqDiff, Nat.reduceAdd, Nat.reduceMul, Nat.reduceSub, Int.reduceToNat, Nat.reduceBEq, List.size_toArray, List.length_cons, List.length_nil, Bool.false_and, Bool.true_and, Bool.or_false, Bool.false_or, Bool.and_false, Bool.and_true]) ⟨by simp (disch := first | (simp only [go_sem, Bool.and_self, eq_self]; done) | omega | (simp only [List.length_cons, List.length_nil]; omega)) only [go_sem, ↓reduceIte, Nat.reduceEqDiff, Nat.reduceAdd, Nat.reduceMul, Nat.reduceSub, Int.reduceToNat, Nat.reduceBEq, List.size_toArray, List.length_cons, List.length_nil, Bool.false_and, Bool.true_and, Bool.or_false, Bool.false_or, Bool.and_false, Bool.and_true], by simp (disch := first | (simp only [go_sem, Bool.and_self, eq_self]; done) | omega | (simp only [List.length_cons, List.length_nil]; omega)) only [go_sem, ↓reduceIte, Nat.reduceEqDiff, Nat.reduceAdd, Nat.reduceMul, Nat.reduceSub, Int.reduceToNat, Nat.reduceBEq, List.size_toArray, List.length_cons, List.length_nil, Bool.false_and, Bool.true_and, Bool.or_false, Bool.false_or, Bool.and_false, Bool.and_true], by simp (disch := first | (simp only [go_sem, Bool.and_self, eq_self]; done) | omega | (simp only [List.length_cons, List.length_nil]; omega)) only [go_sem, ↓reduceIte, Nat.reduceEqDiff, Nat.reduceAdd, Nat.reduceMul, Nat.reduceSub, Int.reduceToNat, Nat.reduceBEq, List.size_toArray, List.length_cons, List.length_nil, Bool.false_and, Bool.true_and, Bool.or_false, Bool.false_or, Bool.and_false, Bool.and_true], by simp (disch := first | (simp only [go_sem, Bool.and_self, eq_self]; done) | omega | (simp only [List.length_cons, List.length_nil]; omega)) only [go_sem, ↓reduceIte, Nat.reduceEqDiff, Nat.reduceAdd, Nat.reduceMul, Nat.reduceSub, Int.reduceToNat, Nat.reduceBEq, List.size_toArray, List.length_cons, List.length_nil, Bool.false_and, Bool.true_and, Bool.or_false, Bool.false_or, Bool.and_false, Bool.and_true], by simp (disch := first | (simp only [go_sem, Bool.and_self, eq_self]; done) | omega | (simp only [List.length_cons, List.length_nil]; omega)) only [go_sem, ↓reduceIte, Nat.reduceEqDiff, Nat.reduceAdd, Nat.reduceMul, Nat.reduceSub, Int.reduceToNat, Nat.reduceBEq, List.size_toArray, List.length_cons, List.length_nil, Bool.false_and, Bool.true_and, Bool.or_false, Bool.false_or, Bool.and_false, Bool.and_true], 0, by simp (disch := first | (simp only [go_sem, Bool.and_self, eq_self]; done) | omega | (simp only [List.length_cons, List.length_nil]; omega)) only [go_sem, ↓reduceIte, Nat.reduceEqDiff, Nat.reduceAdd, Nat.reduceMul, Nat.reduceSub, Int.reduceToNat, Nat.reduceBEq, List.size_toArray, List.length_cons, List.length_nil, Bool.false_and, Bool.true_and, Bool.or_false, Bool.false_or, Bool.and_false, Bool.and_true]; rfl, fun k j hj => by simp⟩ ?_
  rintro lk st h hi s15 ⟨s0, s3, s14, hnx, hb0, X, s5, hX⟩
  by_cases hlt : lk < (nth a 0).length
  case neg =>
    have hle : lk = (nth a 0).length := by omega
    have : X = blk a x := bits_ext hX (bits_congr (blk_bits f x) fun k j hj => by
      cases hb : blkP a x k j with
      | false => rfl
      | true => simp only [blkP, Bool.and_eq_true, decide_eq_true_eq] at hb; rw [decide_eq_true (by omega)]; rfl)
    simp (disch := first | (simp only [go_sem, Bool.and_self, eq_self]; done) | omega | (simp only [List.length_cons, List.length_nil]; omega)) only [go_sem, ↓reduceIte, Nat.reduceEqDiff, Nat.reduceAdd, Nat.reduceMul, Nat.reduceSub, Int.reduceToNat, Nat.reduceBEq, List.size_toArray, List.length_cons, List.length_nil, Bool.false_and, Bool.true_and, Bool.or_false, Bool.false_or, Bool.and_false, Bool.and_true, s15, s0, s3, s14, s5, hlt]
    rw [this]
  simp (disch := first | (simp only [go_sem, Bool.and_self, eq_self]; done) | omega | (simp only [List.length_cons, List.length_nil]; omega)) only [go_sem, ↓reduceIte, Nat.reduceEqDiff, Nat.reduceAdd, Nat.reduceMul, Nat.reduceSub, Int.reduceToNat, Nat.reduceBEq, List.size_toArray, List.length_cons, List.length_nil, Bool.false_and, Bool.true_and, Bool.or_false, Bool.false_or, Bool.and_false, Bool.and_true, s15, s0, s3, s14, s5, hlt]
  -- the pins
  refine WP_cut (fun st g => g = h ∧ st 0 = LLI a ∧ st 3 = .ptr 0 0 ∧ st 14 = I (nth a 0).length ∧ st 15 = I lk ∧ st 6 = I lk ∧ st 5 = I X ∧ st 7 = I (maskN a (col a x) lk 0 a.length)) ?_ ?_
  · refine WP_for 20 a.length (fun i st g => g = h ∧ st 0 = LLI a ∧ st 3 = .ptr 0 0 ∧ st 14 = I (nth a 0).length ∧ st 15 = I lk ∧ st 6 = I lk ∧ st 5 = I X ∧ st 18 = LLI a ∧ st 19 = I a.length ∧ st 7 = I (maskN a (col a x) lk 0 i))
      (by simp (disch := first | (simp only [go_sem, Bool.and_self, eq_self]; done) | omega | (simp only [List.length_cons, List.length_nil]; omega)) only [go_sem, ↓reduceIte, Nat.reduceEqDiff, Nat.reduceAdd, Nat.reduceMul, Nat.reduceSub, Int.reduceToNat, Nat.reduceBEq, List.size_toArray, List.length_cons, List.length_nil, Bool.false_and, Bool.true_and, Bool.or_false, Bool.false_or, Bool.and_false, Bool.and_true]) ⟨rfl, by simp (disch := first | (simp only [go_sem, Bool.and_self, eq_self]; done) | omega | (simp only [List.length_cons, List.length_nil]; omega)) only [go_sem, ↓reduceIte, Nat.reduceEqDiff, Nat.reduceAdd, Nat.reduceMul, Nat.reduceSub, Int.reduceToNat, Nat.reduceBEq, List.size_toArray, List.length_cons, List.length_nil, Bool.false_and, Bool.true_and, Bool.or_false, Bool.false_or, Bool.and_false, Bool.and_true, s0, s3, s14, s15, s5], by simp (disch := first | (simp only [go_sem, Bool.and_self, eq_self]; done) | omega | (simp only [List.length_cons, List.length_nil]; omega)) only [go_sem, ↓reduceIte, Nat.reduceEqDiff, Nat.reduceAdd, Nat.reduceMul, Nat.reduceSub, Int.reduceToNat, Nat.reduceBEq, List.size_toArray, List.length_cons, List.length_nil, Bool.false_and, Bool.true_and, Bool.or_false, Bool.false_or, Bool.and_false, Bool.and_true, s0, s3, s14, s15, s5], by simp (disch := first | (simp only [go_sem, Bool.and_self, eq_self]; done) | omega | (simp only [List.length_cons, List.length_nil]; omega)) only [go_sem, ↓reduceIte, Nat.reduceEqDiff, Nat.reduceAdd, Nat.reduceMul, Nat.reduceSub, Int.reduceToNat, Nat.reduceBEq, List.size_toArray, List.length_cons, List.length_nil, Bool.false_and, Bool.true_and, Bool.or_false, Bool.false_or, Bool.and_false, Bool.and_true, s0, s3, s14, s15, s5], by simp (disch := first | (simp only [go_sem, Bool.and_self, eq_self]; done) | omega | (simp only [List.length_cons, List.length_nil]; omega)) only [go_sem, ↓reduceIte, Nat.reduceEqDiff, Nat.reduceAdd, Nat.reduceMul, Nat.reduceSub, Int.reduceToNat, Nat.reduceBEq, List.size_toArray, List.length_cons, List.length_nil, Bool.false_and, Bool.true_and, Bool.or_false, Bool.false_or, Bool.and_false, Bool.and_true, s0, s3, s14, s15, s5], by simp (disch := first | (simp only [go_sem, Bool.and_self, eq_self]; done) | omega | (simp only [List.length_cons, List.length_nil]; omega)) only [go_sem, ↓reduceIte, Nat.reduceEqDiff, Nat.reduceAdd, Nat.reduceMul, Nat.reduceSub, Int.reduceToNat, Nat.reduceBEq, List.size_toArray, List.length_cons, List.length_nil, Bool.false_and, Bool.true_and, Bool.or_false, Bool.false_or, Bool.and_false, Bool.and_true, s0, s3, s14, s15, s5], by simp (disch := first | (simp only [go_sem, Bool.and_self, eq_self]; done) | omega | (simp only [List.length_cons, List.length_nil]; omega)) only [go_sem, ↓reduceIte, Nat.reduceEqDiff, Nat.reduceAdd, Nat.reduceMul, Nat.reduceSub, Int.reduceToNat, Nat.reduceBEq, List.size_toArray, List.length_cons, List.length_nil, Bool.false_and, Bool.true_and, Bool.or_false, Bool.false_or, Bool.and_false, Bool.and_true, s0, s3, s14, s15, s5], by simp (disch := first | (simp only [go_sem, Bool.and_self, eq_self]; done) | omega | (simp only [List.length_cons, List.length_nil]; omega)) only [go_sem, ↓reduceIte, Nat.reduceEqDiff, Nat.reduceAdd, Nat.reduceMul, Nat.reduceSub, Int.reduceToNat, Nat.reduceBEq, List.size_toArray, List.length_cons, List.length_nil, Bool.false_and, Bool.true_and, Bool.or_false, Bool.false_or, Bool.and_false, Bool.and_true], by simp (disch := first | (simp only [go_sem, Bool.and_self, eq_self]; done) | omega | (simp only [List.length_cons, List.length_nil]; omega)) only [go_sem, ↓reduceIte, Nat.reduceEqDiff, Nat.reduceAdd, Nat.reduceMul, Nat.reduceSub, Int.reduceToNat, Nat.reduceBEq, List.size_toArray, List.length_cons, List.length_nil, Bool.false_and, Bool.true_and, Bool.or_false, Bool.false_or, Bool.and_false, Bool.and_true], by simp (disch := first | (simp only [go_sem, Bool.and_self, eq_self]; done) | omega | (simp only [List.length_cons, List.length_nil]; omega)) only [go_sem, ↓reduceIte, Nat.reduceEqDiff, Nat.reduceAdd, Nat.reduceMul, Nat.reduceSub, Int.reduceToNat, Nat.reduceBEq, List.size_toArray, List.length_cons, List.length_nil, Bool.false_and, Bool.true_and, Bool.or_false, Bool.false_or, Bool.and_false, Bool.and_true]; rfl⟩ ?_
    rintro i st g hi2 s20 ⟨rfl, s0, s3, s14, s15, s6, s5, s18, s19, s7⟩
    by_cases hia : i < a.length
    case neg =>
      have hie : i = a.length := by omega
      simp (disch := first | (simp only [go_sem, Bool.and_self, eq_self]; done) | omega | (simp only [List.length_cons, List.length_nil]; omega)) only [go_sem, ↓reduceIte, Nat.reduceEqDiff, Nat.reduceAdd, Nat.reduceMul, Nat.reduceSub, Int.reduceToNat, Nat.reduceBEq, List.size_toArray, List.length_cons, List.length_nil, Bool.false_and, Bool.true_and, Bool.or_false, Bool.false_or, Bool.and_false, Bool.and_true, s0, s3, s14, s15, s6, s5, s20, s18, s19, s7, hia]
      rw [hie]
    have hrow := f.row i hia
    by_cases h1 : at2 a i lk = 1
    · have h0 : ¬ at2 a i lk = 0 := by omega
      have hxi := hx i hia
      have hm := maskN_lt ft (lock := lk) (c := 0) (by have := ft.cham; omega) (n := i) (by omega)
      have hg := eC_get (x := x) (i := i) (by omega)
      have hsh : binA Try.prog .shl 3 (I 1) (I (nth x i)) = some (I ((2 ^ (nth x i).toNat : Nat) : Int)) := by
        have := shl_one (P := Try.prog) 3 (nth x i).toNat (by omega)
        rwa [show (((nth x i).toNat : Nat) : Int) = nth x i by omega] at this
      have hpow : 2 ^ (nth x i).toNat < 2 ^ 5 := Nat.pow_lt_pow_right (by omega) (by omega)
      have hor := binA_or (P := Try.prog) 3 (maskN a (col a x) lk 0 i) (2 ^ (nth x i).toNat) (by omega) (by omega)
      simp (disch := first | (simp only [go_sem, Bool.and_self, eq_self]; done) | omega | (simp only [List.length_cons, List.length_nil]; omega)) only [go_sem, ↓reduceIte, Nat.reduceEqDiff, Nat.reduceAdd, Nat.reduceMul, Nat.reduceSub, Int.reduceToNat, Nat.reduceBEq, List.size_toArray, List.length_cons, List.length_nil, Bool.false_and, Bool.true_and, Bool.or_false, Bool.false_or, Bool.and_false, Bool.and_true, s0, s3, s14, s15, s6, s5, s20, s18, s19, s7, hia, h1, hb0, hg, hsh, hor]
      rw [ForK_normal]
      refine ⟨hia, by simp (disch := first | (simp only [go_sem, Bool.and_self, eq_self]; done) | omega | (simp only [List.length_cons, List.length_nil]; omega)) only [go_sem, ↓reduceIte, Nat.reduceEqDiff, Nat.reduceAdd, Nat.reduceMul, Nat.reduceSub, Int.reduceToNat, Nat.reduceBEq, List.size_toArray, List.length_cons, List.length_nil, Bool.false_and, Bool.true_and, Bool.or_false, Bool.false_or, Bool.and_false, Bool.and_true, s20], rfl, by simp (disch := first | (simp only [go_sem, Bool.and_self, eq_self]; done) | omega | (simp only [List.length_cons, List.length_nil]; omega)) only [go_sem, ↓reduceIte, Nat.reduceEqDiff, Nat.reduceAdd, Nat.reduceMul, Nat.reduceSub, Int.reduceToNat, Nat.reduceBEq, List.size_toArray, List.length_cons, List.length_nil, Bool.false_and, Bool.true_and, Bool.or_false, Bool.false_or, Bool.and_false, Bool.and_true, s0], by simp (disch := first | (simp only [go_sem, Bool.and_self, eq_self]; done) | omega | (simp only [List.length_cons, List.length_nil]; omega)) only [go_sem, ↓reduceIte, Nat.reduceEqDiff, Nat.reduceAdd, Nat.reduceMul, Nat.reduceSub, Int.reduceToNat, Nat.reduceBEq, List.size_toArray, List.length_cons, List.length_nil, Bool.false_and, Bool.true_and, Bool.or_false, Bool.false_or, Bool.and_false, Bool.and_true, s3], by simp (disch := first | (simp only [go_sem, Bool.and_self, eq_self]; done) | omega | (simp only [List.length_cons, List.length_nil]; omega)) only [go_sem, ↓reduceIte, Nat.reduceEqDiff, Nat.reduceAdd, Nat.reduceMul, Nat.reduceSub, Int.reduceToNat, Nat.reduceBEq, List.size_toArray, List.length_cons, List.length_nil, Bool.false_and, Bool.true_and, Bool.or_false, Bool.false_or, Bool.and_false, Bool.and_true, s14], by simp (disch := first | (simp only [go_sem, Bool.and_self, eq_self]; done) | omega | (simp only [List.length_cons, List.length_nil]; omega)) only [go_sem, ↓reduceIte, Nat.reduceEqDiff, Nat.reduceAdd, Nat.reduceMul, Nat.reduceSub, Int.reduceToNat, Nat.reduceBEq, List.size_toArray, List.length_cons, List.length_nil, Bool.false_and, Bool.true_and, Bool.or_false, Bool.false_or, Bool.and_false, Bool.and_true, s15], by simp (disch := first | (simp only [go_sem, Bool.and_self, eq_self]; done) | omega | (simp only [List.length_cons, List.length_nil]; omega)) only [go_sem, ↓reduceIte, Nat.reduceEqDiff, Nat.reduceAdd, Nat.reduceMul, Nat.reduceSub, Int.reduceToNat, Nat.reduceBEq, List.size_toArray, List.length_cons, List.length_nil, Bool.false_and, Bool.true_and, Bool.or_false, Bool.false_or, Bool.and_false, Bool.and_true, s6], by simp (disch := first | (simp only [go_sem, Bool.and_self, eq_self]; done) | omega | (simp only [List.length_cons, List.length_nil]; omega)) only [go_sem, ↓reduceIte, Nat.reduceEqDiff, Nat.reduceAdd, Nat.reduceMul, Nat.reduceSub, Int.reduceToNat, Nat.reduceBEq, List.size_toArray, List.length_cons, List.length_nil, Bool.false_and, Bool.true_and, Bool.or_false, Bool.false_or, Bool.and_false, Bool.and_true, s5], by simp (disch := first | (simp only [go_sem, Bool.and_self, eq_self]; done) | omega | (simp only [List.length_cons, List.length_nil]; omega)) only [go_sem, ↓reduceIte, Nat.reduceEqDiff, Nat.reduceAdd, Nat.reduceMul, Nat.reduceSub, Int.reduceToNat, Nat.reduceBEq, List.size_toArray, List.length_cons, List.length_nil, Bool.false_and, Bool.true_and, Bool.or_false, Bool.false_or, Bool.and_false, Bool.and_true, s18], by simp (disch := first | (simp only [go_sem, Bool.and_self, eq_self]; done) | omega | (simp only [List.length_cons, List.length_nil]; omega)) only [go_sem, ↓reduceIte, Nat.reduceEqDiff, Nat.reduceAdd, Nat.reduceMul, Nat.reduceSub, Int.reduceToNat, Nat.reduceBEq, List.size_toArray, List.length_cons, List.length_nil, Bool.false_and, Bool.true_and, Bool.or_false, Bool.false_or, Bool.and_false, Bool.and_true, s19], ?_⟩
      rw [maskN, if_neg h0, col_at hia]
      simp (disch := first | (simp only [go_sem, Bool.and_self, eq_self]; done) | omega | (simp only [List.length_cons, List.length_nil]; omega)) only [go_sem, ↓reduceIte, Nat.reduceEqDiff, Nat.reduceAdd, Nat.reduceMul, Nat.reduceSub, Int.reduceToNat, Nat.reduceBEq, List.size_toArray, List.length_cons, List.length_nil, Bool.false_and, Bool.true_and, Bool.or_false, Bool.false_or, Bool.and_false, Bool.and_true]
    · have h0 : at2 a i lk = 0 := by have := f.bit i lk hia hlt; omega
      simp (disch := first | (simp only [go_sem, Bool.and_self, eq_self]; done) | omega | (simp only [List.length_cons, List.length_nil]; omega)) only [go_sem, ↓reduceIte, Nat.reduceEqDiff, Nat.reduceAdd, Nat.reduceMul, Nat.reduceSub, Int.reduceToNat, Nat.reduceBEq, List.size_toArray, List.length_cons, List.length_nil, Bool.false_and, Bool.true_and, Bool.or_false, Bool.false_or, Bool.and_false, Bool.and_true, s0, s3, s14, s15, s6, s5, s20, s18, s19, s7, hia, h1]
      rw [ForK_normal]
      refine ⟨hia, by simp (disch := first | (simp only [go_sem, Bool.and_self, eq_self]; done) | omega | (simp only [List.length_cons, List.length_nil]; omega)) only [go_sem, ↓reduceIte, Nat.reduceEqDiff, Nat.reduceAdd, Nat.reduceMul, Nat.reduceSub, Int.reduceToNat, Nat.reduceBEq, List.size_toArray, List.length_cons, List.length_nil, Bool.false_and, Bool.true_and, Bool.or_false, Bool.false_or, Bool.and_false, Bool.and_true, s20], rfl, by simp (disch := first | (simp only [go_sem, Bool.and_self, eq_self]; done) | omega | (simp only [List.length_cons, List.length_nil]; omega)) only [go_sem, ↓reduceIte, Nat.reduceEqDiff, Nat.reduceAdd, Nat.reduceMul, Nat.reduceSub, Int.reduceToNat, Nat.reduceBEq, List.size_toArray, List.length_cons, List.length_nil, Bool.false_and, Bool.true_and, Bool.or_false, Bool.false_or, Bool.and_false, Bool.and_true, s0], by simp (disch := first | (simp only [go_sem, Bool.and_self, eq_self]; done) | omega | (simp only [List.length_cons, List.length_nil]; omega)) only [go_sem, ↓reduceIte, Nat.reduceEqDiff, Nat.reduceAdd, Nat.reduceMul, Nat.reduceSub, Int.reduceToNat, Nat.reduceBEq, List.size_toArray, List.length_cons, List.length_nil, Bool.false_and, Bool.true_and, Bool.or_false, Bool.false_or, Bool.and_false, Bool.and_true, s3], by simp (disch := first | (simp only [go_sem, Bool.and_self, eq_self]; done) | omega | (simp only [List.length_cons, List.length_nil]; omega)) only [go_sem, ↓reduceIte, Nat.reduceEqDiff, Nat.reduceAdd, Nat.reduceMul, Nat.reduceSub, Int.reduceToNat, Nat.reduceBEq, List.size_toArray, List.length_cons, List.length_nil, Bool.false_and, Bool.true_and, Bool.or_false, Bool.false_or, Bool.and_false, Bool.and_true, s14], by simp (disch := first | (simp only [go_sem, Bool.and_self, eq_self]; done) | omega | (simp only [List.length_cons, List.length_nil]; omega)) only [go_sem, ↓reduceIte, Nat.reduceEqDiff, Nat.reduceAdd, Nat.reduceMul, Nat.reduceSub, Int.reduceToNat, Nat.reduceBEq, List.size_toArray, List.length_cons, List.length_nil, Bool.false_and, Bool.true_and, Bool.or_false, Bool.false_or, Bool.and_false, Bool.and_true, s15], by simp (disch := first | (simp only [go_sem, Bool.and_self, eq_self]; done) | omega | (simp only [List.length_cons, List.length_nil]; omega)) only [go_sem, ↓reduceIte, Nat.reduceEqDiff, Nat.reduceAdd, Nat.reduceMul, Nat.reduceSub, Int.reduceToNat, Nat.reduceBEq, List.size_toArray, List.length_cons, List.length_nil, Bool.false_and, Bool.true_and, Bool.or_false, Bool.false_or, Bool.and_false, Bool.and_true, s6], by simp (disch := first | (simp only [go_sem, Bool.and_self, eq_self]; done) | omega | (simp only [List.length_cons, List.length_nil]; omega)) only [go_sem, ↓reduceIte, Nat.reduceEqDiff, Nat.reduceAdd, Nat.reduceMul, Nat.reduceSub, Int.reduceToNat, Nat.reduceBEq, List.size_toArray, List.length_cons, List.length_nil, Bool.false_and, Bool.true_and, Bool.or_false, Bool.false_or, Bool.and_false, Bool.and_true, s5], by simp (disch := first | (simp only [go_sem, Bool.and_self, eq_self]; done) | omega | (simp only [List.length_cons, List.length_nil]; omega)) only [go_sem, ↓reduceIte, Nat.reduceEqDiff, Nat.reduceAdd, Nat.reduceMul, Nat.reduceSub, Int.reduceToNat, Nat.reduceBEq, List.size_toArray, List.length_cons, List.length_nil, Bool.false_and, Bool.true_and, Bool.or_false, Bool.false_or, Bool.and_false, Bool.and_true, s18], by simp (disch := first | (simp only [go_sem, Bool.and_self, eq_self]; done) | omega | (simp only [List.length_cons, List.length_nil]; omega)) only [go_sem, ↓reduceIte, Nat.reduceEqDiff, Nat.reduceAdd, Nat.reduceMul, Nat.reduceSub, Int.reduceToNat, Nat.reduceBEq, List.size_toArray, List.length_cons, List.length_nil, Bool.false_and, Bool.true_and, Bool.or_false, Bool.false_or, Bool.and_false, Bool.and_true, s19], ?_⟩
      rw [maskN, if_pos h0]
      simp (disch := first | (simp only [go_sem, Bool.and_self, eq_self]; done) | omega | (simp only [List.length_cons, List.length_nil]; omega)) only [go_sem, ↓reduceIte, Nat.reduceEqDiff, Nat.reduceAdd, Nat.reduceMul, Nat.reduceSub, Int.reduceToNat, Nat.reduceBEq, List.size_toArray, List.length_cons, List.length_nil, Bool.false_and, Bool.true_and, Bool.or_false, Bool.false_or, Bool.and_false, Bool.and_true, s7]
  rintro st g ⟨rfl, s0, s3, s14, s15, s6, s5, s7⟩
  have hmlt := maskN_lt ft (lock := lk) (c := 0) (by have := ft.cham; omega) (n := a.length) (Nat.le_refl _)
  simp (disch := first | (simp only [go_sem, Bool.and_self, eq_self]; done) | omega | (simp only [List.length_cons, List.length_nil]; omega)) only [go_sem, ↓reduceIte, Nat.reduceEqDiff, Nat.reduceAdd, Nat.reduceMul, Nat.reduceSub, Int.reduceToNat, Nat.reduceBEq, List.size_toArray, List.length_cons, List.length_nil, Bool.false_and, Bool.true_and, Bool.or_false, Bool.false_or, Bool.and_false, Bool.and_true, s0, s3, s14, s15, s6, s5, s7]
  refine WP_for 39 a.length (fun i st g' => g' = g ∧ st 0 = LLI a ∧ st 3 = .ptr 0 0 ∧ st 14 = I (nth a 0).length ∧ st 15 = I lk ∧ st 6 = I lk ∧ st 7 = I (maskN a (col a x) lk 0 a.length) ∧ st 38 = I a.length ∧ ∃ X : Nat, st 5 = I X ∧ bits X fun k j' => blkP a x k j' && (decide (j' < lk) || (decide (j' = lk) && decide (k < i))))
    (by simp (disch := first | (simp only [go_sem, Bool.and_self, eq_self]; done) | omega | (simp only [List.length_cons, List.length_nil]; omega)) only [go_sem, ↓reduceIte, Nat.reduceEqDiff, Nat.reduceAdd, Nat.reduceMul, Nat.reduceSub, Int.reduceToNat, Nat.reduceBEq, List.size_toArray, List.length_cons, List.length_nil, Bool.false_and, Bool.true_and, Bool.or_false, Bool.false_or, Bool.and_false, Bool.and_true]) ⟨rfl, by simp (disch := first | (simp only [go_sem, Bool.and_self, eq_self]; done) | omega | (simp only [List.length_cons, List.length_nil]; omega)) only [go_sem, ↓reduceIte, Nat.reduceEqDiff, Nat.reduceAdd, Nat.reduceMul, Nat.reduceSub, Int.reduceToNat, Nat.reduceBEq, List.size_toArray, List.length_cons, List.length_nil, Bool.false_and, Bool.true_and, Bool.or_false, Bool.false_or, Bool.and_false, Bool.and_true, s0, s3, s14, s15, s6, s7], by simp (disch := first | (simp only [go_sem, Bool.and_self, eq_self]; done) | omega | (simp only [List.length_cons, List.length_nil]; omega)) only [go_sem, ↓reduceIte, Nat.reduceEqDiff, Nat.reduceAdd, Nat.reduceMul, Nat.reduceSub, Int.reduceToNat, Nat.reduceBEq, List.size_toArray, List.length_cons, List.length_nil, Bool.false_and, Bool.true_and, Bool.or_false, Bool.false_or, Bool.and_false, Bool.and_true, s0, s3, s14, s15, s6, s7], by simp (disch := first | (simp only [go_sem, Bool.and_self, eq_self]; done) | omega | (simp only [List.length_cons, List.length_nil]; omega)) only [go_sem, ↓reduceIte, Nat.reduceEqDiff, Nat.reduceAdd, Nat.reduceMul, Nat.reduceSub, Int.reduceToNat, Nat.reduceBEq, List.size_toArray, List.length_cons, List.length_nil, Bool.false_and, Bool.true_and, Bool.or_false, Bool.false_or, Bool.and_false, Bool.and_true, s0, s3, s14, s15, s6, s7], by simp (disch := first | (simp only [go_sem, Bool.and_self, eq_self]; done) | omega | (simp only [List.length_cons, List.length_nil]; omega)) only [go_sem, ↓reduceIte, Nat.reduceEqDiff, Nat.reduceAdd, Nat.reduceMul, Nat.reduceSub, Int.reduceToNat, Nat.reduceBEq, List.size_toArray, List.length_cons, List.length_nil, Bool.false_and, Bool.true_and, Bool.or_false, Bool.false_or, Bool.and_false, Bool.and_true, s0, s3, s14, s15, s6, s7], by simp (disch := first | (simp only [go_sem, Bool.and_self, eq_self]; done) | omega | (simp only [List.length_cons, List.length_nil]; omega)) only [go_sem, ↓reduceIte, Nat.reduceEqDiff, Nat.reduceAdd, Nat.reduceMul, Nat.reduceSub, Int.reduceToNat, Nat.reduceBEq, List.size_toArray, List.length_cons, List.length_nil, Bool.false_and, Bool.true_and, Bool.or_false, Bool.false_or, Bool.and_false, Bool.and_true, s0, s3, s14, s15, s6, s7], by simp (disch := first | (simp only [go_sem, Bool.and_self, eq_self]; done) | omega | (simp only [List.length_cons, List.length_nil]; omega)) only [go_sem, ↓reduceIte, Nat.reduceEqDiff, Nat.reduceAdd, Nat.reduceMul, Nat.reduceSub, Int.reduceToNat, Nat.reduceBEq, List.size_toArray, List.length_cons, List.length_nil, Bool.false_and, Bool.true_and, Bool.or_false, Bool.false_or, Bool.and_false, Bool.and_true, s0, s3, s14, s15, s6, s7], by simp (disch := first | (simp only [go_sem, Bool.and_self, eq_self]; done) | omega | (simp only [List.length_cons, List.length_nil]; omega)) only [go_sem, ↓reduceIte, Nat.reduceEqDiff, Nat.reduceAdd, Nat.reduceMul, Nat.reduceSub, Int.reduceToNat, Nat.reduceBEq, List.size_toArray, List.length_cons, List.length_nil, Bool.false_and, Bool.true_and, Bool.or_false, Bool.false_or, Bool.and_false, Bool.and_true, s0, s3, s14, s15, s6, s7], X, by simp (disch := first | (simp only [go_sem, Bool.and_self, eq_self]; done) | omega | (simp only [List.length_cons, List.length_nil]; omega)) only [go_sem, ↓reduceIte, Nat.reduceEqDiff, Nat.reduceAdd, Nat.reduceMul, Nat.reduceSub, Int.reduceToNat, Nat.reduceBEq, List.size_toArray, List.length_cons, List.length_nil, Bool.false_and, Bool.true_and, Bool.or_false, Bool.false_or, Bool.and_false, Bool.and_true, s5], bits_congr hX fun k j hj => by simp⟩ ?_
  rintro i st g' hi2 s39 ⟨rfl, s0, s3, s14, s15, s6, s7, s38, X, s5, hX⟩
  by_cases hia : i < a.length
  case neg =>
    have hie : i = a.length := by omega
    simp (disch := first | (simp only [go_sem, Bool.and_self, eq_self]; done) | omega | (simp only [List.length_cons, List.length_nil]; omega)) only [go_sem, ↓reduceIte, Nat.reduceEqDiff, Nat.reduceAdd, Nat.reduceMul, Nat.reduceSub, Int.reduceToNat, Nat.reduceBEq, List.size_toArray, List.length_cons, List.length_nil, Bool.false_and, Bool.true_and, Bool.or_false, Bool.false_or, Bool.and_false, Bool.and_true, s0, s3, s14, s15, s6, s7, s38, s39, s5, hia]
    rw [ForK_normal]
    refine ⟨hlt, by simp (disch := first | (simp only [go_sem, Bool.and_self, eq_self]; done) | omega | (simp only [List.length_cons, List.length_nil]; omega)) only [go_sem, ↓reduceIte, Nat.reduceEqDiff, Nat.reduceAdd, Nat.reduceMul, Nat.reduceSub, Int.reduceToNat, Nat.reduceBEq, List.size_toArray, List.length_cons, List.length_nil, Bool.false_and, Bool.true_and, Bool.or_false, Bool.false_or, Bool.and_false, Bool.and_true, s15], by simp (disch := first | (simp only [go_sem, Bool.and_self, eq_self]; done) | omega | (simp only [List.length_cons, List.length_nil]; omega)) only [go_sem, ↓reduceIte, Nat.reduceEqDiff, Nat.reduceAdd, Nat.reduceMul, Nat.reduceSub, Int.reduceToNat, Nat.reduceBEq, List.size_toArray, List.length_cons, List.length_nil, Bool.false_and, Bool.true_and, Bool.or_false, Bool.false_or, Bool.and_false, Bool.and_true, s0], by simp (disch := first | (simp only [go_sem, Bool.and_self, eq_self]; done) | omega | (simp only [List.length_cons, List.length_nil]; omega)) only [go_sem, ↓reduceIte, Nat.reduceEqDiff, Nat.reduceAdd, Nat.reduceMul, Nat.reduceSub, Int.reduceToNat, Nat.reduceBEq, List.size_toArray, List.length_cons, List.length_nil, Bool.false_and, Bool.true_and, Bool.or_false, Bool.false_or, Bool.and_false, Bool.and_true, s3], by simp (disch := first | (simp only [go_sem, Bool.and_self, eq_self]; done) | omega | (simp only [List.length_cons, List.length_nil]; omega)) only [go_sem, ↓reduceIte, Nat.reduceEqDiff, Nat.reduceAdd, Nat.reduceMul, Nat.reduceSub, Int.reduceToNat, Nat.reduceBEq, List.size_toArray, List.length_cons, List.length_nil, Bool.false_and, Bool.true_and, Bool.or_false, Bool.false_or, Bool.and_false, Bool.and_true, s14], hnx, hb0, X, by simp (disch := first | (simp only [go_sem, Bool.and_self, eq_self]; done) | omega | (simp only [List.length_cons, List.length_nil]; omega)) only [go_sem, ↓reduceIte, Nat.reduceEqDiff, Nat.reduceAdd, Nat.reduceMul, Nat.reduceSub, Int.reduceToNat, Nat.reduceBEq, List.size_toArray, List.length_cons, List.length_nil, Bool.false_and, Bool.true_and, Bool.or_false, Bool.false_or, Bool.and_false, Bool.and_true, s5], bits_congr hX fun k j hj => ?_⟩
    cases hb : blkP a x k j with
    | false => rfl
    | true =>
      simp only [blkP, Bool.and_eq_true, decide_eq_true_eq] at hb
      rw [decide_eq_true (show k < i by omega), Bool.true_and, Bool.true_and, Bool.and_true, ← Bool.decide_or, decide_eq_decide]
      omega
  have hX36 := bits_lt hX fun k j _ hb => by simp only [blkP, Bool.and_eq_true, decide_eq_true_eq] at hb; omega
  have hxi := hx i hia
  have hg := eC_get (x := x) (i := i) (by omega)
  obtain ⟨y, hy⟩ : ∃ y : Nat, nth x i = (y : Int) := ⟨(nth x i).toNat, by omega⟩
  have hbit := maskN_bit ft hlt (c := 0) (by have := ft.cham; omega) y
  have hsh : binA Try.prog .shr 3 (I (maskN a (col a x) lk 0 a.length)) (I (nth x i)) = some (I ((maskN a (col a x) lk 0 a.length >>> y : Nat) : Int)) := by
    rw [hy]; exact shr_nat 3 _ y (by omega)
  have hsl : maskN a (col a x) lk 0 a.length >>> y < 9223372036854775808 := by rw [Nat.shiftRight_eq_div_pow]; exact Nat.lt_of_le_of_lt (Nat.div_le_self _ _) (by omega)
  have hand : binA Try.prog .and 3 (I ((maskN a (col a x) lk 0 a.length >>> y : Nat) : Int)) (I 1) = some (I (if pinB a (col a x) lk 0 (nth x i) then 1 else 0)) := by
    rw [show ((1 : Int)) = ((1 : Nat) : Int) from rfl, binA_and (P := Try.prog) 3 _ 1 hsl (by omega), bit_test, hbit, hy]
    congr 2
    split <;> rfl
  have hbl : blkP a x i lk = !pinB a (col a x) lk 0 (nth x i) := by
    simp only [blkP, barB, decide_eq_true hia, decide_eq_true hlt, Bool.true_and]
  cases hp : pinB a (col a x) lk 0 (nth x i) with
  | true =>
    rw [hp] at hand hbl
    simp (disch := first | (simp only [go_sem, Bool.and_self, eq_self]; done) | omega | (simp only [List.length_cons, List.length_nil]; omega)) only [go_sem, ↓reduceIte, Nat.reduceEqDiff, Nat.reduceAdd, Nat.reduceMul, Nat.reduceSub, Int.reduceToNat, Nat.reduceBEq, List.size_toArray, List.length_cons, List.length_nil, Bool.false_and, Bool.true_and, Bool.or_false, Bool.false_or, Bool.and_false, Bool.and_true, s0, s3, s14, s15, s6, s7, s38, s39, s5, hia, hb0, hg, hsh, hand, Int.one_ne_zero]
    rw [ForK_normal]
    refine ⟨hia, by simp (disch := first | (simp only [go_sem, Bool.and_self, eq_self]; done) | omega | (simp only [List.length_cons, List.length_nil]; omega)) only [go_sem, ↓reduceIte, Nat.reduceEqDiff, Nat.reduceAdd, Nat.reduceMul, Nat.reduceSub, Int.reduceToNat, Nat.reduceBEq, List.size_toArray, List.length_cons, List.length_nil, Bool.false_and, Bool.true_and, Bool.or_false, Bool.false_or, Bool.and_false, Bool.and_true, s39], rfl, by simp (disch := first | (simp only [go_sem, Bool.and_self, eq_self]; done) | omega | (simp only [List.length_cons, List.length_nil]; omega)) only [go_sem, ↓reduceIte, Nat.reduceEqDiff, Nat.reduceAdd, Nat.reduceMul, Nat.reduceSub, Int.reduceToNat, Nat.reduceBEq, List.size_toArray, List.length_cons, List.length_nil, Bool.false_and, Bool.true_and, Bool.or_false, Bool.false_or, Bool.and_false, Bool.and_true, s0], by simp (disch := first | (simp only [go_sem, Bool.and_self, eq_self]; done) | omega | (simp only [List.length_cons, List.length_nil]; omega)) only [go_sem, ↓reduceIte, Nat.reduceEqDiff, Nat.reduceAdd, Nat.reduceMul, Nat.reduceSub, Int.reduceToNat, Nat.reduceBEq, List.size_toArray, List.length_cons, List.length_nil, Bool.false_and, Bool.true_and, Bool.or_false, Bool.false_or, Bool.and_false, Bool.and_true, s3], by simp (disch := first | (simp only [go_sem, Bool.and_self, eq_self]; done) | omega | (simp only [List.length_cons, List.length_nil]; omega)) only [go_sem, ↓reduceIte, Nat.reduceEqDiff, Nat.reduceAdd, Nat.reduceMul, Nat.reduceSub, Int.reduceToNat, Nat.reduceBEq, List.size_toArray, List.length_cons, List.length_nil, Bool.false_and, Bool.true_and, Bool.or_false, Bool.false_or, Bool.and_false, Bool.and_true, s14], by simp (disch := first | (simp only [go_sem, Bool.and_self, eq_self]; done) | omega | (simp only [List.length_cons, List.length_nil]; omega)) only [go_sem, ↓reduceIte, Nat.reduceEqDiff, Nat.reduceAdd, Nat.reduceMul, Nat.reduceSub, Int.reduceToNat, Nat.reduceBEq, List.size_toArray, List.length_cons, List.length_nil, Bool.false_and, Bool.true_and, Bool.or_false, Bool.false_or, Bool.and_false, Bool.and_true, s15], by simp (disch := first | (simp only [go_sem, Bool.and_self, eq_self]; done) | omega | (simp only [List.length_cons, List.length_nil]; omega)) only [go_sem, ↓reduceIte, Nat.reduceEqDiff, Nat.reduceAdd, Nat.reduceMul, Nat.reduceSub, Int.reduceToNat, Nat.reduceBEq, List.size_toArray, List.length_cons, List.length_nil, Bool.false_and, Bool.true_and, Bool.or_false, Bool.false_or, Bool.and_false, Bool.and_true, s6], by simp (disch := first | (simp only [go_sem, Bool.and_self, eq_self]; done) | omega | (simp only [List.length_cons, List.length_nil]; omega)) only [go_sem, ↓reduceIte, Nat.reduceEqDiff, Nat.reduceAdd, Nat.reduceMul, Nat.reduceSub, Int.reduceToNat, Nat.reduceBEq, List.size_toArray, List.length_cons, List.length_nil, Bool.false_and, Bool.true_and, Bool.or_false, Bool.false_or, Bool.and_false, Bool.and_true, s7], by simp (disch := first | (simp only [go_sem, Bool.and_self, eq_self]; done) | omega | (simp only [List.length_cons, List.length_nil]; omega)) only [go_sem, ↓reduceIte, Nat.reduceEqDiff, Nat.reduceAdd, Nat.reduceMul, Nat.reduceSub, Int.reduceToNat, Nat.reduceBEq, List.size_toArray, List.length_cons, List.length_nil, Bool.false_and, Bool.true_and, Bool.or_false, Bool.false_or, Bool.and_false, Bool.and_true, s38], X, by simp (disch := first | (simp only [go_sem, Bool.and_self, eq_self]; done) | omega | (simp only [List.length_cons, List.length_nil]; omega)) only [go_sem, ↓reduceIte, Nat.reduceEqDiff, Nat.reduceAdd, Nat.reduceMul, Nat.reduceSub, Int.reduceToNat, Nat.reduceBEq, List.size_toArray, List.length_cons, List.length_nil, Bool.false_and, Bool.true_and, Bool.or_false, Bool.false_or, Bool.and_false, Bool.and_true, s5], bits_congr hX fun k j hj => ?_⟩
    by_cases hkj : j = lk ∧ k = i
    · obtain ⟨rfl, rfl⟩ := hkj
      simp [hbl]
    · congr 2
      rw [← Bool.decide_and, ← Bool.decide_and, decide_eq_decide]
      omega
  | false =>
    rw [hp] at hand hbl
    have kk := fun h h' K => k59 (h := h) (h' := h') (K := K) i lk (by omega) (by omega)
    have h36 := pow36 (k := i) (j := lk) (by omega) (by omega)
    have hor := binA_or (P := Try.prog) 80 X (2 ^ (i * 6 + lk)) (by omega) (by omega)
    simp (disch := first | (simp only [go_sem, Bool.and_self, eq_self]; done) | omega | (simp only [List.length_cons, List.length_nil]; omega)) only [go_sem, ↓reduceIte, Nat.reduceEqDiff, Nat.reduceAdd, Nat.reduceMul, Nat.reduceSub, Int.reduceToNat, Nat.reduceBEq, List.size_toArray, List.length_cons, List.length_nil, Bool.false_and, Bool.true_and, Bool.or_false, Bool.false_or, Bool.and_false, Bool.and_true, s0, s3, s14, s15, s6, s7, s38, s39, s5, hia, hb0, hg, hsh, hand, kk, hor]
    rw [ForK_normal]
    refine ⟨hia, by simp (disch := first | (simp only [go_sem, Bool.and_self, eq_self]; done) | omega | (simp only [List.length_cons, List.length_nil]; omega)) only [go_sem, ↓reduceIte, Nat.reduceEqDiff, Nat.reduceAdd, Nat.reduceMul, Nat.reduceSub, Int.reduceToNat, Nat.reduceBEq, List.size_toArray, List.length_cons, List.length_nil, Bool.false_and, Bool.true_and, Bool.or_false, Bool.false_or, Bool.and_false, Bool.and_true, s39], rfl, by simp (disch := first | (simp only [go_sem, Bool.and_self, eq_self]; done) | omega | (simp only [List.length_cons, List.length_nil]; omega)) only [go_sem, ↓reduceIte, Nat.reduceEqDiff, Nat.reduceAdd, Nat.reduceMul, Nat.reduceSub, Int.reduceToNat, Nat.reduceBEq, List.size_toArray, List.length_cons, List.length_nil, Bool.false_and, Bool.true_and, Bool.or_false, Bool.false_or, Bool.and_false, Bool.and_true, s0], by simp (disch := first | (simp only [go_sem, Bool.and_self, eq_self]; done) | omega | (simp only [List.length_cons, List.length_nil]; omega)) only [go_sem, ↓reduceIte, Nat.reduceEqDiff, Nat.reduceAdd, Nat.reduceMul, Nat.reduceSub, Int.reduceToNat, Nat.reduceBEq, List.size_toArray, List.length_cons, List.length_nil, Bool.false_and, Bool.true_and, Bool.or_false, Bool.false_or, Bool.and_false, Bool.and_true, s3], by simp (disch := first | (simp only [go_sem, Bool.and_self, eq_self]; done) | omega | (simp only [List.length_cons, List.length_nil]; omega)) only [go_sem, ↓reduceIte, Nat.reduceEqDiff, Nat.reduceAdd, Nat.reduceMul, Nat.reduceSub, Int.reduceToNat, Nat.reduceBEq, List.size_toArray, List.length_cons, List.length_nil, Bool.false_and, Bool.true_and, Bool.or_false, Bool.false_or, Bool.and_false, Bool.and_true, s14], by simp (disch := first | (simp only [go_sem, Bool.and_self, eq_self]; done) | omega | (simp only [List.length_cons, List.length_nil]; omega)) only [go_sem, ↓reduceIte, Nat.reduceEqDiff, Nat.reduceAdd, Nat.reduceMul, Nat.reduceSub, Int.reduceToNat, Nat.reduceBEq, List.size_toArray, List.length_cons, List.length_nil, Bool.false_and, Bool.true_and, Bool.or_false, Bool.false_or, Bool.and_false, Bool.and_true, s15], by simp (disch := first | (simp only [go_sem, Bool.and_self, eq_self]; done) | omega | (simp only [List.length_cons, List.length_nil]; omega)) only [go_sem, ↓reduceIte, Nat.reduceEqDiff, Nat.reduceAdd, Nat.reduceMul, Nat.reduceSub, Int.reduceToNat, Nat.reduceBEq, List.size_toArray, List.length_cons, List.length_nil, Bool.false_and, Bool.true_and, Bool.or_false, Bool.false_or, Bool.and_false, Bool.and_true, s6], by simp (disch := first | (simp only [go_sem, Bool.and_self, eq_self]; done) | omega | (simp only [List.length_cons, List.length_nil]; omega)) only [go_sem, ↓reduceIte, Nat.reduceEqDiff, Nat.reduceAdd, Nat.reduceMul, Nat.reduceSub, Int.reduceToNat, Nat.reduceBEq, List.size_toArray, List.length_cons, List.length_nil, Bool.false_and, Bool.true_and, Bool.or_false, Bool.false_or, Bool.and_false, Bool.and_true, s7], by simp (disch := first | (simp only [go_sem, Bool.and_self, eq_self]; done) | omega | (simp only [List.length_cons, List.length_nil]; omega)) only [go_sem, ↓reduceIte, Nat.reduceEqDiff, Nat.reduceAdd, Nat.reduceMul, Nat.reduceSub, Int.reduceToNat, Nat.reduceBEq, List.size_toArray, List.length_cons, List.length_nil, Bool.false_and, Bool.true_and, Bool.or_false, Bool.false_or, Bool.and_false, Bool.and_true, s38], X ||| 2 ^ (i * 6 + lk), by simp (disch := first | (simp only [go_sem, Bool.and_self, eq_self]; done) | omega | (simp only [List.length_cons, List.length_nil]; omega)) only [go_sem, ↓reduceIte, Nat.reduceEqDiff, Nat.reduceAdd, Nat.reduceMul, Nat.reduceSub, Int.reduceToNat, Nat.reduceBEq, List.size_toArray, List.length_cons, List.length_nil, Bool.false_and, Bool.true_and, Bool.or_false, Bool.false_or, Bool.and_false, Bool.and_true], bits_congr (bits_or hX (k0 := i) (j0 := lk) (by omega)) fun k j hj => ?_⟩
    by_cases hkj : j = lk ∧ k = i
    · obtain ⟨rfl, rfl⟩ := hkj
      simp [hbl]
    · have e1 : (decide (k = i) && decide (j = lk)) = false := by rw [← Bool.decide_and]; exact decide_eq_false (by omega)
      rw [e1, Bool.or_false]
      congr 2
      rw [← Bool.decide_and, ← Bool.decide_and, decide_eq_decide]
      omega
theorem k58 {a : List (List Int)} (f : Pl a) {x : List Int} {d : Int} (hd : 1 ≤ d ∧ d ≤ 4) (hx : Dep x a.length d) : ConW Try.prog cfg 58 h (some ([LLI a, .agg (eC x)], h')) K = K (I (blk a x)) h := ConW_num (f58_con f hd hx) rfl

theorem f53_con {a : List (List Int)} (f : Pl a) : Con Try.prog cfg 53 [LLI a] (I (badM a)) := by
  have hk := f.keys
  have hlo := f.locks
  refine Con_intro Try.func53 rfl ok53 (Nat.le_of_ble_eq_true rfl) rfl ?_
  simp only [Try.f53, Option.getD_some, initSt1]
  simp (disch := first | (simp only [go_sem, Bool.and_self, eq_self]; done) | omega | (simp only [List.length_cons, List.length_nil]; omega)) only [go_sem, ↓reduceIte, Nat.reduceEqDiff, Nat.reduceAdd, Nat.reduceMul, Nat.reduceSub, Int.reduceToNat, Nat.reduceBEq, List.size_toArray, List.length_cons, List.length_nil, Bool.false_and, Bool.true_and, Bool.or_false, Bool.false_or, Bool.and_false, Bool.and_true]
  refine WP_for 12 a.length (fun i st h => st 0 = LLI a ∧ st 10 = LLI a ∧ st 11 = I a.length ∧ ∃ X : Nat, st 3 = I X ∧ bits X fun k j => badP a k j && decide (k < i)) (by simp (disch := first | (simp only [go_sem, Bool.and_self, eq_self]; done) | omega | (simp only [List.length_cons, List.length_nil]; omega)) only [go_sem, ↓reduceIte, Nat.reduceEqDiff, Nat.reduceAdd, Nat.reduceMul, Nat.reduceSub, Int.reduceToNat, Nat.reduceBEq, List.size_toArray, List.length_cons, List.length_nil, Bool.false_and, Bool.true_and, Bool.or_false, Bool.false_or, Bool.and_false, Bool.and_true]) ⟨by simp (disch := first | (simp only [go_sem, Bool.and_self, eq_self]; done) | omega | (simp only [List.length_cons, List.length_nil]; omega)) only [go_sem, ↓reduceIte, Nat.reduceEqDiff, Nat.reduceAdd, Nat.reduceMul, Nat.reduceSub, Int.reduceToNat, Nat.reduceBEq, List.size_toArray, List.length_cons, List.length_nil, Bool.false_and, Bool.true_and, Bool.or_false, Bool.false_or, Bool.and_false, Bool.and_true], by simp (disch := first | (simp only [go_sem, Bool.and_self, eq_self]; done) | omega | (simp only [List.length_cons, List.length_nil]; omega)) only [go_sem, ↓reduceIte, Nat.reduceEqDiff, Nat.reduceAdd, Nat.reduceMul, Nat.reduceSub, Int.reduceToNat, Nat.reduceBEq, List.size_toArray, List.length_cons, List.length_nil, Bool.false_and, Bool.true_and, Bool.or_false, Bool.false_or, Bool.and_false, Bool.and_true], by simp (disch := first | (simp only [go_sem, Bool.and_self, eq_self]; done) | omega | (simp only [List.length_cons, List.length_nil]; omega)) only [go_sem, ↓reduceIte, Nat.reduceEqDiff, Nat.reduceAdd, Nat.reduceMul, Nat.reduceSub, Int.reduceToNat, Nat.reduceBEq, List.size_toArray, List.length_cons, List.length_nil, Bool.false_and, Bool.true_and, Bool.or_false, Bool.false_or, Bool.and_false, Bool.and_true], 0, by simp (disch := first | (simp only [go_sem, Bool.and_self, eq_self]; done) | omega | (simp only [List.length_cons, List.length_nil]; omega)) only [go_sem, ↓reduceIte, Nat.reduceEqDiff, Nat.reduceAdd, Nat.reduceMul, Nat.reduceSub, Int.reduceToNat, Nat.reduceBEq, List.size_toArray, List.length_cons, List.length_nil, Bool.false_and, Bool.true_and, Bool.or_false, Bool.false_or, Bool.and_false, Bool.and_true]; rfl, fun k j hj => by simp⟩ ?_
  rintro i st h hi s12 ⟨s0, s10, s11, X, s3, hX⟩
  by_cases hia : i < a.length
  case neg =>
    have : X = badM a := bits_ext hX (bits_congr (bad_bits f) fun k j hj => by
      cases hb : badP a k j with
      | false => rfl
      | true => simp only [badP, Bool.and_eq_true, decide_eq_true_eq] at hb; rw [decide_eq_true (by omega)]; rfl)
    simp (disch := first | (simp only [go_sem, Bool.and_self, eq_self]; done) | omega | (simp only [List.length_cons, List.length_nil]; omega)) only [go_sem, ↓reduceIte, Nat.reduceEqDiff, Nat.reduceAdd, Nat.reduceMul, Nat.reduceSub, Int.reduceToNat, Nat.reduceBEq, List.size_toArray, List.length_cons, List.length_nil, Bool.false_and, Bool.true_and, Bool.or_false, Bool.false_or, Bool.and_false, Bool.and_true, s0, s10, s11, s12, s3, hia]
    rw [this]
  have hrow := f.row i hia
  simp (disch := first | (simp only [go_sem, Bool.and_self, eq_self]; done) | omega | (simp only [List.length_cons, List.length_nil]; omega)) only [go_sem, ↓reduceIte, Nat.reduceEqDiff, Nat.reduceAdd, Nat.reduceMul, Nat.reduceSub, Int.reduceToNat, Nat.reduceBEq, List.size_toArray, List.length_cons, List.length_nil, Bool.false_and, Bool.true_and, Bool.or_false, Bool.false_or, Bool.and_false, Bool.and_true, s0, s10, s11, s12, s3, hia]
  refine WP_for 19 (nth a i).length (fun j st h => st 0 = LLI a ∧ st 10 = LLI a ∧ st 11 = I a.length ∧ st 12 = I i ∧ st 4 = I i ∧ st 17 = LI (nth a i) ∧ st 18 = I (nth a i).length ∧ ∃ X : Nat, st 3 = I X ∧ bits X fun k j' => badP a k j' && (decide (k < i) || (decide (k = i) && decide (j' < j)))) (by simp (disch := first | (simp only [go_sem, Bool.and_self, eq_self]; done) | omega | (simp only [List.length_cons, List.length_nil]; omega)) only [go_sem, ↓reduceIte, Nat.reduceEqDiff, Nat.reduceAdd, Nat.reduceMul, Nat.reduceSub, Int.reduceToNat, Nat.reduceBEq, List.size_toArray, List.length_cons, List.length_nil, Bool.false_and, Bool.true_and, Bool.or_false, Bool.false_or, Bool.and_false, Bool.and_true]) ⟨by simp (disch := first | (simp only [go_sem, Bool.and_self, eq_self]; done) | omega | (simp only [List.length_cons, List.length_nil]; omega)) only [go_sem, ↓reduceIte, Nat.reduceEqDiff, Nat.reduceAdd, Nat.reduceMul, Nat.reduceSub, Int.reduceToNat, Nat.reduceBEq, List.size_toArray, List.length_cons, List.length_nil, Bool.false_and, Bool.true_and, Bool.or_false, Bool.false_or, Bool.and_false, Bool.and_true, s0, s10, s11, s12], by simp (disch := first | (simp only [go_sem, Bool.and_self, eq_self]; done) | omega | (simp only [List.length_cons, List.length_nil]; omega)) only [go_sem, ↓reduceIte, Nat.reduceEqDiff, Nat.reduceAdd, Nat.reduceMul, Nat.reduceSub, Int.reduceToNat, Nat.reduceBEq, List.size_toArray, List.length_cons, List.length_nil, Bool.false_and, Bool.true_and, Bool.or_false, Bool.false_or, Bool.and_false, Bool.and_true, s0, s10, s11, s12], by simp (disch := first | (simp only [go_sem, Bool.and_self, eq_self]; done) | omega | (simp only [List.length_cons, List.length_nil]; omega)) only [go_sem, ↓reduceIte, Nat.reduceEqDiff, Nat.reduceAdd, Nat.reduceMul, Nat.reduceSub, Int.reduceToNat, Nat.reduceBEq, List.size_toArray, List.length_cons, List.length_nil, Bool.false_and, Bool.true_and, Bool.or_false, Bool.false_or, Bool.and_false, Bool.and_true, s0, s10, s11, s12], by simp (disch := first | (simp only [go_sem, Bool.and_self, eq_self]; done) | omega | (simp only [List.length_cons, List.length_nil]; omega)) only [go_sem, ↓reduceIte, Nat.reduceEqDiff, Nat.reduceAdd, Nat.reduceMul, Nat.reduceSub, Int.reduceToNat, Nat.reduceBEq, List.size_toArray, List.length_cons, List.length_nil, Bool.false_and, Bool.true_and, Bool.or_false, Bool.false_or, Bool.and_false, Bool.and_true, s0, s10, s11, s12], by simp (disch := first | (simp only [go_sem, Bool.and_self, eq_self]; done) | omega | (simp only [List.length_cons, List.length_nil]; omega)) only [go_sem, ↓reduceIte, Nat.reduceEqDiff, Nat.reduceAdd, Nat.reduceMul, Nat.reduceSub, Int.reduceToNat, Nat.reduceBEq, List.size_toArray, List.length_cons, List.length_nil, Bool.false_and, Bool.true_and, Bool.or_false, Bool.false_or, Bool.and_false, Bool.and_true, s0, s10, s11, s12], by simp (disch := first | (simp only [go_sem, Bool.and_self, eq_self]; done) | omega | (simp only [List.length_cons, List.length_nil]; omega)) only [go_sem, ↓reduceIte, Nat.reduceEqDiff, Nat.reduceAdd, Nat.reduceMul, Nat.reduceSub, Int.reduceToNat, Nat.reduceBEq, List.size_toArray, List.length_cons, List.length_nil, Bool.false_and, Bool.true_and, Bool.or_false, Bool.false_or, Bool.and_false, Bool.and_true, s0, s10, s11, s12], by simp (disch := first | (simp only [go_sem, Bool.and_self, eq_self]; done) | omega | (simp only [List.length_cons, List.length_nil]; omega)) only [go_sem, ↓reduceIte, Nat.reduceEqDiff, Nat.reduceAdd, Nat.reduceMul, Nat.reduceSub, Int.reduceToNat, Nat.reduceBEq, List.size_toArray, List.length_cons, List.length_nil, Bool.false_and, Bool.true_and, Bool.or_false, Bool.false_or, Bool.and_false, Bool.and_true, s0, s10, s11, s12], X, by simp (disch := first | (simp only [go_sem, Bool.and_self, eq_self]; done) | omega | (simp only [List.length_cons, List.length_nil]; omega)) only [go_sem, ↓reduceIte, Nat.reduceEqDiff, Nat.reduceAdd, Nat.reduceMul, Nat.reduceSub, Int.reduceToNat, Nat.reduceBEq, List.size_toArray, List.length_cons, List.length_nil, Bool.false_and, Bool.true_and, Bool.or_false, Bool.false_or, Bool.and_false, Bool.and_true, s3], bits_congr hX fun k j hj => by simp⟩ ?_
  rintro j st h hj s19 ⟨s0, s10, s11, s12, s4, s17, s18, X, s3, hX⟩
  by_cases hjl : j < (nth a i).length
  case neg =>
    simp (disch := first | (simp only [go_sem, Bool.and_self, eq_self]; done) | omega | (simp only [List.length_cons, List.length_nil]; omega)) only [go_sem, ↓reduceIte, Nat.reduceEqDiff, Nat.reduceAdd, Nat.reduceMul, Nat.reduceSub, Int.reduceToNat, Nat.reduceBEq, List.size_toArray, List.length_cons, List.length_nil, Bool.false_and, Bool.true_and, Bool.or_false, Bool.false_or, Bool.and_false, Bool.and_true, s0, s10, s11, s12, s4, s17, s18, s19, s3, hjl]
    rw [ForK_normal]
    refine ⟨hia, by simp (disch := first | (simp only [go_sem, Bool.and_self, eq_self]; done) | omega | (simp only [List.length_cons, List.length_nil]; omega)) only [go_sem, ↓reduceIte, Nat.reduceEqDiff, Nat.reduceAdd, Nat.reduceMul, Nat.reduceSub, Int.reduceToNat, Nat.reduceBEq, List.size_toArray, List.length_cons, List.length_nil, Bool.false_and, Bool.true_and, Bool.or_false, Bool.false_or, Bool.and_false, Bool.and_true, s12], by simp (disch := first | (simp only [go_sem, Bool.and_self, eq_self]; done) | omega | (simp only [List.length_cons, List.length_nil]; omega)) only [go_sem, ↓reduceIte, Nat.reduceEqDiff, Nat.reduceAdd, Nat.reduceMul, Nat.reduceSub, Int.reduceToNat, Nat.reduceBEq, List.size_toArray, List.length_cons, List.length_nil, Bool.false_and, Bool.true_and, Bool.or_false, Bool.false_or, Bool.and_false, Bool.and_true, s0], by simp (disch := first | (simp only [go_sem, Bool.and_self, eq_self]; done) | omega | (simp only [List.length_cons, List.length_nil]; omega)) only [go_sem, ↓reduceIte, Nat.reduceEqDiff, Nat.reduceAdd, Nat.reduceMul, Nat.reduceSub, Int.reduceToNat, Nat.reduceBEq, List.size_toArray, List.length_cons, List.length_nil, Bool.false_and, Bool.true_and, Bool.or_false, Bool.false_or, Bool.and_false, Bool.and_true, s10], by simp (disch := first | (simp only [go_sem, Bool.and_self, eq_self]; done) | omega | (simp only [List.length_cons, List.length_nil]; omega)) only [go_sem, ↓reduceIte, Nat.reduceEqDiff, Nat.reduceAdd, Nat.reduceMul, Nat.reduceSub, Int.reduceToNat, Nat.reduceBEq, List.size_toArray, List.length_cons, List.length_nil, Bool.false_and, Bool.true_and, Bool.or_false, Bool.false_or, Bool.and_false, Bool.and_true, s11], X, by simp (disch := first | (simp only [go_sem, Bool.and_self, eq_self]; done) | omega | (simp only [List.length_cons, List.length_nil]; omega)) only [go_sem, ↓reduceIte, Nat.reduceEqDiff, Nat.reduceAdd, Nat.reduceMul, Nat.reduceSub, Int.reduceToNat, Nat.reduceBEq, List.size_toArray, List.length_cons, List.length_nil, Bool.false_and, Bool.true_and, Bool.or_false, Bool.false_or, Bool.and_false, Bool.and_true, s3], bits_congr hX fun k j' hj' => ?_⟩
    cases hb : badP a k j' with
    | false => rfl
    | true =>
      simp only [badP, Bool.and_eq_true, decide_eq_true_eq] at hb
      rw [Bool.true_and, Bool.true_and, ← Bool.decide_and, ← Bool.decide_or, decide_eq_decide]
      omega
  by_cases h0 : at2 a i j = 0
  case neg =>
    simp (disch := first | (simp only [go_sem, Bool.and_self, eq_self]; done) | omega | (simp only [List.length_cons, List.length_nil]; omega)) only [go_sem, ↓reduceIte, Nat.reduceEqDiff, Nat.reduceAdd, Nat.reduceMul, Nat.reduceSub, Int.reduceToNat, Nat.reduceBEq, List.size_toArray, List.length_cons, List.length_nil, Bool.false_and, Bool.true_and, Bool.or_false, Bool.false_or, Bool.and_false, Bool.and_true, s0, s10, s11, s12, s4, s17, s18, s19, s3, hjl, h0]
    rw [ForK_normal]
    refine ⟨hjl, by simp (disch := first | (simp only [go_sem, Bool.and_self, eq_self]; done) | omega | (simp only [List.length_cons, List.length_nil]; omega)) only [go_sem, ↓reduceIte, Nat.reduceEqDiff, Nat.reduceAdd, Nat.reduceMul, Nat.reduceSub, Int.reduceToNat, Nat.reduceBEq, List.size_toArray, List.length_cons, List.length_nil, Bool.false_and, Bool.true_and, Bool.or_false, Bool.false_or, Bool.and_false, Bool.and_true, s19], by simp (disch := first | (simp only [go_sem, Bool.and_self, eq_self]; done) | omega | (simp only [List.length_cons, List.length_nil]; omega)) only [go_sem, ↓reduceIte, Nat.reduceEqDiff, Nat.reduceAdd, Nat.reduceMul, Nat.reduceSub, Int.reduceToNat, Nat.reduceBEq, List.size_toArray, List.length_cons, List.length_nil, Bool.false_and, Bool.true_and, Bool.or_false, Bool.false_or, Bool.and_false, Bool.and_true, s0], by simp (disch := first | (simp only [go_sem, Bool.and_self, eq_self]; done) | omega | (simp only [List.length_cons, List.length_nil]; omega)) only [go_sem, ↓reduceIte, Nat.reduceEqDiff, Nat.reduceAdd, Nat.reduceMul, Nat.reduceSub, Int.reduceToNat, Nat.reduceBEq, List.size_toArray, List.length_cons, List.length_nil, Bool.false_and, Bool.true_and, Bool.or_false, Bool.false_or, Bool.and_false, Bool.and_true, s10], by simp (disch := first | (simp only [go_sem, Bool.and_self, eq_self]; done) | omega | (simp only [List.length_cons, List.length_nil]; omega)) only [go_sem, ↓reduceIte, Nat.reduceEqDiff, Nat.reduceAdd, Nat.reduceMul, Nat.reduceSub, Int.reduceToNat, Nat.reduceBEq, List.size_toArray, List.length_cons, List.length_nil, Bool.false_and, Bool.true_and, Bool.or_false, Bool.false_or, Bool.and_false, Bool.and_true, s11], by simp (disch := first | (simp only [go_sem, Bool.and_self, eq_self]; done) | omega | (simp only [List.length_cons, List.length_nil]; omega)) only [go_sem, ↓reduceIte, Nat.reduceEqDiff, Nat.reduceAdd, Nat.reduceMul, Nat.reduceSub, Int.reduceToNat, Nat.reduceBEq, List.size_toArray, List.length_cons, List.length_nil, Bool.false_and, Bool.true_and, Bool.or_false, Bool.false_or, Bool.and_false, Bool.and_true, s12], by simp (disch := first | (simp only [go_sem, Bool.and_self, eq_self]; done) | omega | (simp only [List.length_cons, List.length_nil]; omega)) only [go_sem, ↓reduceIte, Nat.reduceEqDiff, Nat.reduceAdd, Nat.reduceMul, Nat.reduceSub, Int.reduceToNat, Nat.reduceBEq, List.size_toArray, List.length_cons, List.length_nil, Bool.false_and, Bool.true_and, Bool.or_false, Bool.false_or, Bool.and_false, Bool.and_true, s4], by simp (disch := first | (simp only [go_sem, Bool.and_self, eq_self]; done) | omega | (simp only [List.length_cons, List.length_nil]; omega)) only [go_sem, ↓reduceIte, Nat.reduceEqDiff, Nat.reduceAdd, Nat.reduceMul, Nat.reduceSub, Int.reduceToNat, Nat.reduceBEq, List.size_toArray, List.length_cons, List.length_nil, Bool.false_and, Bool.true_and, Bool.or_false, Bool.false_or, Bool.and_false, Bool.and_true, s17], by simp (disch := first | (simp only [go_sem, Bool.and_self, eq_self]; done) | omega | (simp only [List.length_cons, List.length_nil]; omega)) only [go_sem, ↓reduceIte, Nat.reduceEqDiff, Nat.reduceAdd, Nat.reduceMul, Nat.reduceSub, Int.reduceToNat, Nat.reduceBEq, List.size_toArray, List.length_cons, List.length_nil, Bool.false_and, Bool.true_and, Bool.or_false, Bool.false_or, Bool.and_false, Bool.and_true, s18], X, by simp (disch := first | (simp only [go_sem, Bool.and_self, eq_self]; done) | omega | (simp only [List.length_cons, List.length_nil]; omega)) only [go_sem, ↓reduceIte, Nat.reduceEqDiff, Nat.reduceAdd, Nat.reduceMul, Nat.reduceSub, Int.reduceToNat, Nat.reduceBEq, List.size_toArray, List.length_cons, List.length_nil, Bool.false_and, Bool.true_and, Bool.or_false, Bool.false_or, Bool.and_false, Bool.and_true, s3], bits_congr hX fun k j' hj' => ?_⟩
    by_cases hkj : j' = j ∧ k = i
    · obtain ⟨rfl, rfl⟩ := hkj
      simp [badP, h0]
    · congr 1
      rw [← Bool.decide_and, ← Bool.decide_and, ← Bool.decide_or, ← Bool.decide_or, decide_eq_decide]
      omega
  simp (disch := first | (simp only [go_sem, Bool.and_self, eq_self]; done) | omega | (simp only [List.length_cons, List.length_nil]; omega)) only [go_sem, ↓reduceIte, Nat.reduceEqDiff, Nat.reduceAdd, Nat.reduceMul, Nat.reduceSub, Int.reduceToNat, Nat.reduceBEq, List.size_toArray, List.length_cons, List.length_nil, Bool.false_and, Bool.true_and, Bool.or_false, Bool.false_or, Bool.and_false, Bool.and_true, s0, s10, s11, s12, s4, s17, s18, s19, s3, hjl, h0]
  refine WP_for 28 a.length (fun o st h => st 0 = LLI a ∧ st 10 = LLI a ∧ st 11 = I a.length ∧ st 12 = I i ∧ st 4 = I i ∧ st 17 = LI (nth a i) ∧ st 18 = I (nth a i).length ∧ st 6 = I j ∧ st 19 = I j ∧ st 26 = LLI a ∧ st 27 = I a.length ∧ ∃ X : Nat, st 3 = I X ∧ bits X fun k j' => (badP a k j' && (decide (k < i) || (decide (k = i) && decide (j' < j)))) || (decide (k = i) && decide (j' = j) && (List.range o).any fun o' => decide (at2 a o' j = 1)))
    (by simp (disch := first | (simp only [go_sem, Bool.and_self, eq_self]; done) | omega | (simp only [List.length_cons, List.length_nil]; omega)) only [go_sem, ↓reduceIte, Nat.reduceEqDiff, Nat.reduceAdd, Nat.reduceMul, Nat.reduceSub, Int.reduceToNat, Nat.reduceBEq, List.size_toArray, List.length_cons, List.length_nil, Bool.false_and, Bool.true_and, Bool.or_false, Bool.false_or, Bool.and_false, Bool.and_true]) ⟨by simp (disch := first | (simp only [go_sem, Bool.and_self, eq_self]; done) | omega | (simp only [List.length_cons, List.length_nil]; omega)) only [go_sem, ↓reduceIte, Nat.reduceEqDiff, Nat.reduceAdd, Nat.reduceMul, Nat.reduceSub, Int.reduceToNat, Nat.reduceBEq, List.size_toArray, List.length_cons, List.length_nil, Bool.false_and, Bool.true_and, Bool.or_false, Bool.false_or, Bool.and_false, Bool.and_true, s0, s10, s11, s12, s4, s17, s18, s19], by simp (disch := first | (simp only [go_sem, Bool.and_self, eq_self]; done) | omega | (simp only [List.length_cons, List.length_nil]; omega)) only [go_sem, ↓reduceIte, Nat.reduceEqDiff, Nat.reduceAdd, Nat.reduceMul, Nat.reduceSub, Int.reduceToNat, Nat.reduceBEq, List.size_toArray, List.length_cons, List.length_nil, Bool.false_and, Bool.true_and, Bool.or_false, Bool.false_or, Bool.and_false, Bool.and_true, s0, s10, s11, s12, s4, s17, s18, s19], by simp (disch := first | (simp only [go_sem, Bool.and_self, eq_self]; done) | omega | (simp only [List.length_cons, List.length_nil]; omega)) only [go_sem, ↓reduceIte, Nat.reduceEqDiff, Nat.reduceAdd, Nat.reduceMul, Nat.reduceSub, Int.reduceToNat, Nat.reduceBEq, List.size_toArray, List.length_cons, List.length_nil, Bool.false_and, Bool.true_and, Bool.or_false, Bool.false_or, Bool.and_false, Bool.and_true, s0, s10, s11, s12, s4, s17, s18, s19], by simp (disch := first | (simp only [go_sem, Bool.and_self, eq_self]; done) | omega | (simp only [List.length_cons, List.length_nil]; omega)) only [go_sem, ↓reduceIte, Nat.reduceEqDiff, Nat.reduceAdd, Nat.reduceMul, Nat.reduceSub, Int.reduceToNat, Nat.reduceBEq, List.size_toArray, List.length_cons, List.length_nil, Bool.false_and, Bool.true_and, Bool.or_false, Bool.false_or, Bool.and_false, Bool.and_true, s0, s10, s11, s12, s4, s17, s18, s19], by simp (disch := first | (simp only [go_sem, Bool.and_self, eq_self]; done) | omega | (simp only [List.length_cons, List.length_nil]; omega)) only [go_sem, ↓reduceIte, Nat.reduceEqDiff, Nat.reduceAdd, Nat.reduceMul, Nat.reduceSub, Int.reduceToNat, Nat.reduceBEq, List.size_toArray, List.length_cons, List.length_nil, Bool.false_and, Bool.true_and, Bool.or_false, Bool.false_or, Bool.and_false, Bool.and_true, s0, s10, s11, s12, s4, s17, s18, s19], by simp (disch := first | (simp only [go_sem, Bool.and_self, eq_self]; done) | omega | (simp only [List.length_cons, List.length_nil]; omega)) only [go_sem, ↓reduceIte, Nat.reduceEqDiff, Nat.reduceAdd, Nat.reduceMul, Nat.reduceSub, Int.reduceToNat, Nat.reduceBEq, List.size_toArray, List.length_cons, List.length_nil, Bool.false_and, Bool.true_and, Bool.or_false, Bool.false_or, Bool.and_false, Bool.and_true, s0, s10, s11, s12, s4, s17, s18, s19], by simp (disch := first | (simp only [go_sem, Bool.and_self, eq_self]; done) | omega | (simp only [List.length_cons, List.length_nil]; omega)) only [go_sem, ↓reduceIte, Nat.reduceEqDiff, Nat.reduceAdd, Nat.reduceMul, Nat.reduceSub, Int.reduceToNat, Nat.reduceBEq, List.size_toArray, List.length_cons, List.length_nil, Bool.false_and, Bool.true_and, Bool.or_false, Bool.false_or, Bool.and_false, Bool.and_true, s0, s10, s11, s12, s4, s17, s18, s19], by simp (disch := first | (simp only [go_sem, Bool.and_self, eq_self]; done) | omega | (simp only [List.length_cons, List.length_nil]; omega)) only [go_sem, ↓reduceIte, Nat.reduceEqDiff, Nat.reduceAdd, Nat.reduceMul, Nat.reduceSub, Int.reduceToNat, Nat.reduceBEq, List.size_toArray, List.length_cons, List.length_nil, Bool.false_and, Bool.true_and, Bool.or_false, Bool.false_or, Bool.and_false, Bool.and_true, s0, s10, s11, s12, s4, s17, s18, s19], by simp (disch := first | (simp only [go_sem, Bool.and_self, eq_self]; done) | omega | (simp only [List.length_cons, List.length_nil]; omega)) only [go_sem, ↓reduceIte, Nat.reduceEqDiff, Nat.reduceAdd, Nat.reduceMul, Nat.reduceSub, Int.reduceToNat, Nat.reduceBEq, List.size_toArray, List.length_cons, List.length_nil, Bool.false_and, Bool.true_and, Bool.or_false, Bool.false_or, Bool.and_false, Bool.and_true, s0, s10, s11, s12, s4, s17, s18, s19], by simp (disch := first | (simp only [go_sem, Bool.and_self, eq_self]; done) | omega | (simp only [List.length_cons, List.length_nil]; omega)) only [go_sem, ↓reduceIte, Nat.reduceEqDiff, Nat.reduceAdd, Nat.reduceMul, Nat.reduceSub, Int.reduceToNat, Nat.reduceBEq, List.size_toArray, List.length_cons, List.length_nil, Bool.false_and, Bool.true_and, Bool.or_false, Bool.false_or, Bool.and_false, Bool.and_true, s0, s10, s11, s12, s4, s17, s18, s19], by simp (disch := first | (simp only [go_sem, Bool.and_self, eq_self]; done) | omega | (simp only [List.length_cons, List.length_nil]; omega)) only [go_sem, ↓reduceIte, Nat.reduceEqDiff, Nat.reduceAdd, Nat.reduceMul, Nat.reduceSub, Int.reduceToNat, Nat.reduceBEq, List.size_toArray, List.length_cons, List.length_nil, Bool.false_and, Bool.true_and, Bool.or_false, Bool.false_or, Bool.and_false, Bool.and_true, s0, s10, s11, s12, s4, s17, s18, s19], X, by simp (disch := first | (simp only [go_sem, Bool.and_self, eq_self]; done) | omega | (simp only [List.length_cons, List.length_nil]; omega)) only [go_sem, ↓reduceIte, Nat.reduceEqDiff, Nat.reduceAdd, Nat.reduceMul, Nat.reduceSub, Int.reduceToNat, Nat.reduceBEq, List.size_toArray, List.length_cons, List.length_nil, Bool.false_and, Bool.true_and, Bool.or_false, Bool.false_or, Bool.and_false, Bool.and_true, s3], bits_congr hX fun k j' hj' => by simp⟩ ?_
  rintro o st h ho s28 ⟨s0, s10, s11, s12, s4, s17, s18, s6, s19, s26, s27, X, s3, hX⟩
  by_cases hoa : o < a.length
  case neg =>
    have hoe : o = a.length := by omega
    subst hoe
    simp (disch := first | (simp only [go_sem, Bool.and_self, eq_self]; done) | omega | (simp only [List.length_cons, List.length_nil]; omega)) only [go_sem, ↓reduceIte, Nat.reduceEqDiff, Nat.reduceAdd, Nat.reduceMul, Nat.reduceSub, Int.reduceToNat, Nat.reduceBEq, List.size_toArray, List.length_cons, List.length_nil, Bool.false_and, Bool.true_and, Bool.or_false, Bool.false_or, Bool.and_false, Bool.and_true, s0, s10, s11, s12, s4, s17, s18, s6, s19, s26, s27, s28, s3, hoa]
    rw [ForK_normal]
    refine ⟨hjl, by simp (disch := first | (simp only [go_sem, Bool.and_self, eq_self]; done) | omega | (simp only [List.length_cons, List.length_nil]; omega)) only [go_sem, ↓reduceIte, Nat.reduceEqDiff, Nat.reduceAdd, Nat.reduceMul, Nat.reduceSub, Int.reduceToNat, Nat.reduceBEq, List.size_toArray, List.length_cons, List.length_nil, Bool.false_and, Bool.true_and, Bool.or_false, Bool.false_or, Bool.and_false, Bool.and_true, s19], by simp (disch := first | (simp only [go_sem, Bool.and_self, eq_self]; done) | omega | (simp only [List.length_cons, List.length_nil]; omega)) only [go_sem, ↓reduceIte, Nat.reduceEqDiff, Nat.reduceAdd, Nat.reduceMul, Nat.reduceSub, Int.reduceToNat, Nat.reduceBEq, List.size_toArray, List.length_cons, List.length_nil, Bool.false_and, Bool.true_and, Bool.or_false, Bool.false_or, Bool.and_false, Bool.and_true, s0], by simp (disch := first | (simp only [go_sem, Bool.and_self, eq_self]; done) | omega | (simp only [List.length_cons, List.length_nil]; omega)) only [go_sem, ↓reduceIte, Nat.reduceEqDiff, Nat.reduceAdd, Nat.reduceMul, Nat.reduceSub, Int.reduceToNat, Nat.reduceBEq, List.size_toArray, List.length_cons, List.length_nil, Bool.false_and, Bool.true_and, Bool.or_false, Bool.false_or, Bool.and_false, Bool.and_true, s10], by simp (disch := first | (simp only [go_sem, Bool.and_self, eq_self]; done) | omega | (simp only [List.length_cons, List.length_nil]; omega)) only [go_sem, ↓reduceIte, Nat.reduceEqDiff, Nat.reduceAdd, Nat.reduceMul, Nat.reduceSub, Int.reduceToNat, Nat.reduceBEq, List.size_toArray, List.length_cons, List.length_nil, Bool.false_and, Bool.true_and, Bool.or_false, Bool.false_or, Bool.and_false, Bool.and_true, s11], by simp (disch := first | (simp only [go_sem, Bool.and_self, eq_self]; done) | omega | (simp only [List.length_cons, List.length_nil]; omega)) only [go_sem, ↓reduceIte, Nat.reduceEqDiff, Nat.reduceAdd, Nat.reduceMul, Nat.reduceSub, Int.reduceToNat, Nat.reduceBEq, List.size_toArray, List.length_cons, List.length_nil, Bool.false_and, Bool.true_and, Bool.or_false, Bool.false_or, Bool.and_false, Bool.and_true, s12], by simp (disch := first | (simp only [go_sem, Bool.and_self, eq_self]; done) | omega | (simp only [List.length_cons, List.length_nil]; omega)) only [go_sem, ↓reduceIte, Nat.reduceEqDiff, Nat.reduceAdd, Nat.reduceMul, Nat.reduceSub, Int.reduceToNat, Nat.reduceBEq, List.size_toArray, List.length_cons, List.length_nil, Bool.false_and, Bool.true_and, Bool.or_false, Bool.false_or, Bool.and_false, Bool.and_true, s4], by simp (disch := first | (simp only [go_sem, Bool.and_self, eq_self]; done) | omega | (simp only [List.length_cons, List.length_nil]; omega)) only [go_sem, ↓reduceIte, Nat.reduceEqDiff, Nat.reduceAdd, Nat.reduceMul, Nat.reduceSub, Int.reduceToNat, Nat.reduceBEq, List.size_toArray, List.length_cons, List.length_nil, Bool.false_and, Bool.true_and, Bool.or_false, Bool.false_or, Bool.and_false, Bool.and_true, s17], by simp (disch := first | (simp only [go_sem, Bool.and_self, eq_self]; done) | omega | (simp only [List.length_cons, List.length_nil]; omega)) only [go_sem, ↓reduceIte, Nat.reduceEqDiff, Nat.reduceAdd, Nat.reduceMul, Nat.reduceSub, Int.reduceToNat, Nat.reduceBEq, List.size_toArray, List.length_cons, List.length_nil, Bool.false_and, Bool.true_and, Bool.or_false, Bool.false_or, Bool.and_false, Bool.and_true, s18], X, by simp (disch := first | (simp only [go_sem, Bool.and_self, eq_self]; done) | omega | (simp only [List.length_cons, List.length_nil]; omega)) only [go_sem, ↓reduceIte, Nat.reduceEqDiff, Nat.reduceAdd, Nat.reduceMul, Nat.reduceSub, Int.reduceToNat, Nat.reduceBEq, List.size_toArray, List.length_cons, List.length_nil, Bool.false_and, Bool.true_and, Bool.or_false, Bool.false_or, Bool.and_false, Bool.and_true, s3], bits_congr hX fun k j' hj' => ?_⟩
    by_cases hkj : j' = j ∧ k = i
    · obtain ⟨rfl, rfl⟩ := hkj
      have hj0 : j' < (nth a 0).length := by omega
      simp [badP, h0, hia, hj0]
    · have e1 : (decide (k = i) && decide (j' = j)) = false := by rw [← Bool.decide_and]; exact decide_eq_false (by omega)
      rw [e1, Bool.false_and, Bool.or_false]
      congr 1
      rw [← Bool.decide_and, ← Bool.decide_and, ← Bool.decide_or, ← Bool.decide_or, decide_eq_decide]
      omega
  have hor0 := f.row o hoa
  have hany : ((List.range (o + 1)).any fun o' => decide (at2 a o' j = 1)) = (((List.range o).any fun o' => decide (at2 a o' j = 1)) || decide (at2 a o j = 1)) := by
    simp [List.range_succ, List.any_append]
  by_cases h1 : at2 a o j = 1
  case neg =>
    simp (disch := first | (simp only [go_sem, Bool.and_self, eq_self]; done) | omega | (simp only [List.length_cons, List.length_nil]; omega)) only [go_sem, ↓reduceIte, Nat.reduceEqDiff, Nat.reduceAdd, Nat.reduceMul, Nat.reduceSub, Int.reduceToNat, Nat.reduceBEq, List.size_toArray, List.length_cons, List.length_nil, Bool.false_and, Bool.true_and, Bool.or_false, Bool.false_or, Bool.and_false, Bool.and_true, s0, s10, s11, s12, s4, s17, s18, s6, s19, s26, s27, s28, s3, hoa, h1]
    rw [ForK_normal]
    refine ⟨hoa, by simp (disch := first | (simp only [go_sem, Bool.and_self, eq_self]; done) | omega | (simp only [List.length_cons, List.length_nil]; omega)) only [go_sem, ↓reduceIte, Nat.reduceEqDiff, Nat.reduceAdd, Nat.reduceMul, Nat.reduceSub, Int.reduceToNat, Nat.reduceBEq, List.size_toArray, List.length_cons, List.length_nil, Bool.false_and, Bool.true_and, Bool.or_false, Bool.false_or, Bool.and_false, Bool.and_true, s28], by simp (disch := first | (simp only [go_sem, Bool.and_self, eq_self]; done) | omega | (simp only [List.length_cons, List.length_nil]; omega)) only [go_sem, ↓reduceIte, Nat.reduceEqDiff, Nat.reduceAdd, Nat.reduceMul, Nat.reduceSub, Int.reduceToNat, Nat.reduceBEq, List.size_toArray, List.length_cons, List.length_nil, Bool.false_and, Bool.true_and, Bool.or_false, Bool.false_or, Bool.and_false, Bool.and_true, s0], by simp (disch := first | (simp only [go_sem, Bool.and_self, eq_self]; done) | omega | (simp only [List.length_cons, List.length_nil]; omega)) only [go_sem, ↓reduceIte, Nat.reduceEqDiff, Nat.reduceAdd, Nat.reduceMul, Nat.reduceSub, Int.reduceToNat, Nat.reduceBEq, List.size_toArray, List.length_cons, List.length_nil, Bool.false_and, Bool.true_and, Bool.or_false, Bool.false_or, Bool.and_false, Bool.and_true, s10], by simp (disch := first | (simp only [go_sem, Bool.and_self, eq_self]; done) | omega | (simp only [List.length_cons, List.length_nil]; omega)) only [go_sem, ↓reduceIte, Nat.reduceEqDiff, Nat.reduceAdd, Nat.reduceMul, Nat.reduceSub, Int.reduceToNat, Nat.reduceBEq, List.size_toArray, List.length_cons, List.length_nil, Bool.false_and, Bool.true_and, Bool.or_false, Bool.false_or, Bool.and_false, Bool.and_true, s11], by simp (disch := first | (simp only [go_sem, Bool.and_self, eq_self]; done) | omega | (simp only [List.length_cons, List.length_nil]; omega)) only [go_sem, ↓reduceIte, Nat.reduceEqDiff, Nat.reduceAdd, Nat.reduceMul, Nat.reduceSub, Int.reduceToNat, Nat.reduceBEq, List.size_toArray, List.length_cons, List.length_nil, Bool.false_and, Bool.true_and, Bool.or_false, Bool.false_or, Bool.and_false, Bool.and_true, s12], by simp (disch := first | (simp only [go_sem, Bool.and_self, eq_self]; done) | omega | (simp only [List.length_cons, List.length_nil]; omega)) only [go_sem, ↓reduceIte, Nat.reduceEqDiff, Nat.reduceAdd, Nat.reduceMul, Nat.reduceSub, Int.reduceToNat, Nat.reduceBEq, List.size_toArray, List.length_cons, List.length_nil, Bool.false_and, Bool.true_and, Bool.or_false, Bool.false_or, Bool.and_false, Bool.and_true, s4], by simp (disch := first | (simp only [go_sem, Bool.and_self, eq_self]; done) | omega | (simp only [List.length_cons, List.length_nil]; omega)) only [go_sem, ↓reduceIte, Nat.reduceEqDiff, Nat.reduceAdd, Nat.reduceMul, Nat.reduceSub, Int.reduceToNat, Nat.reduceBEq, List.size_toArray, List.length_cons, List.length_nil, Bool.false_and, Bool.true_and, Bool.or_false, Bool.false_or, Bool.and_false, Bool.and_true, s17], by simp (disch := first | (simp only [go_sem, Bool.and_self, eq_self]; done) | omega | (simp only [List.length_cons, List.length_nil]; omega)) only [go_sem, ↓reduceIte, Nat.reduceEqDiff, Nat.reduceAdd, Nat.reduceMul, Nat.reduceSub, Int.reduceToNat, Nat.reduceBEq, List.size_toArray, List.length_cons, List.length_nil, Bool.false_and, Bool.true_and, Bool.or_false, Bool.false_or, Bool.and_false, Bool.and_true, s18], by simp (disch := first | (simp only [go_sem, Bool.and_self, eq_self]; done) | omega | (simp only [List.length_cons, List.length_nil]; omega)) only [go_sem, ↓reduceIte, Nat.reduceEqDiff, Nat.reduceAdd, Nat.reduceMul, Nat.reduceSub, Int.reduceToNat, Nat.reduceBEq, List.size_toArray, List.length_cons, List.length_nil, Bool.false_and, Bool.true_and, Bool.or_false, Bool.false_or, Bool.and_false, Bool.and_true, s6], by simp (disch := first | (simp only [go_sem, Bool.and_self, eq_self]; done) | omega | (simp only [List.length_cons, List.length_nil]; omega)) only [go_sem, ↓reduceIte, Nat.reduceEqDiff, Nat.reduceAdd, Nat.reduceMul, Nat.reduceSub, Int.reduceToNat, Nat.reduceBEq, List.size_toArray, List.length_cons, List.length_nil, Bool.false_and, Bool.true_and, Bool.or_false, Bool.false_or, Bool.and_false, Bool.and_true, s19], by simp (disch := first | (simp only [go_sem, Bool.and_self, eq_self]; done) | omega | (simp only [List.length_cons, List.length_nil]; omega)) only [go_sem, ↓reduceIte, Nat.reduceEqDiff, Nat.reduceAdd, Nat.reduceMul, Nat.reduceSub, Int.reduceToNat, Nat.reduceBEq, List.size_toArray, List.length_cons, List.length_nil, Bool.false_and, Bool.true_and, Bool.or_false, Bool.false_or, Bool.and_false, Bool.and_true, s26], by simp (disch := first | (simp only [go_sem, Bool.and_self, eq_self]; done) | omega | (simp only [List.length_cons, List.length_nil]; omega)) only [go_sem, ↓reduceIte, Nat.reduceEqDiff, Nat.reduceAdd, Nat.reduceMul, Nat.reduceSub, Int.reduceToNat, Nat.reduceBEq, List.size_toArray, List.length_cons, List.length_nil, Bool.false_and, Bool.true_and, Bool.or_false, Bool.false_or, Bool.and_false, Bool.and_true, s27], X, by simp (disch := first | (simp only [go_sem, Bool.and_self, eq_self]; done) | omega | (simp only [List.length_cons, List.length_nil]; omega)) only [go_sem, ↓reduceIte, Nat.reduceEqDiff, Nat.reduceAdd, Nat.reduceMul, Nat.reduceSub, Int.reduceToNat, Nat.reduceBEq, List.size_toArray, List.length_cons, List.length_nil, Bool.false_and, Bool.true_and, Bool.or_false, Bool.false_or, Bool.and_false, Bool.and_true, s3], bits_congr hX fun k j' hj' => ?_⟩
    rw [hany, decide_eq_false h1, Bool.or_false]
  have kk := fun h h' K => k59 (h := h) (h' := h') (K := K) i j (by omega) (by omega)
  have hX36 := bits_lt hX fun k j _ hb => by simp only [badP, Bool.or_eq_true, Bool.and_eq_true, decide_eq_true_eq] at hb; omega
  have h36 := pow36 (k := i) (j := j) (by omega) (by omega)
  have hor := binA_or (P := Try.prog) 80 X (2 ^ (i * 6 + j)) (by omega) (by omega)
  simp (disch := first | (simp only [go_sem, Bool.and_self, eq_self]; done) | omega | (simp only [List.length_cons, List.length_nil]; omega)) only [go_sem, ↓reduceIte, Nat.reduceEqDiff, Nat.reduceAdd, Nat.reduceMul, Nat.reduceSub, Int.reduceToNat, Nat.reduceBEq, List.size_toArray, List.length_cons, List.length_nil, Bool.false_and, Bool.true_and, Bool.or_false, Bool.false_or, Bool.and_false, Bool.and_true, s0, s10, s11, s12, s4, s17, s18, s6, s19, s26, s27, s28, s3, hoa, h1, kk, hor]
  rw [ForK_normal]
  refine ⟨hoa, by simp (disch := first | (simp only [go_sem, Bool.and_self, eq_self]; done) | omega | (simp only [List.length_cons, List.length_nil]; omega)) only [go_sem, ↓reduceIte, Nat.reduceEqDiff, Nat.reduceAdd, Nat.reduceMul, Nat.reduceSub, Int.reduceToNat, Nat.reduceBEq, List.size_toArray, List.length_cons, List.length_nil, Bool.false_and, Bool.true_and, Bool.or_false, Bool.false_or, Bool.and_false, Bool.and_true, s28], by simp (disch := first | (simp only [go_sem, Bool.and_self, eq_self]; done) | omega | (simp only [List.length_cons, List.length_nil]; omega)) only [go_sem, ↓reduceIte, Nat.reduceEqDiff, Nat.reduceAdd, Nat.reduceMul, Nat.reduceSub, Int.reduceToNat, Nat.reduceBEq, List.size_toArray, List.length_cons, List.length_nil, Bool.false_and, Bool.true_and, Bool.or_false, Bool.false_or, Bool.and_false, Bool.and_true, s0], by simp (disch := first | (simp only [go_sem, Bool.and_self, eq_self]; done) | omega | (simp only [List.length_cons, List.length_nil]; omega)) only [go_sem, ↓reduceIte, Nat.reduceEqDiff, Nat.reduceAdd, Nat.reduceMul, Nat.reduceSub, Int.reduceToNat, Nat.reduceBEq, List.size_toArray, List.length_cons, List.length_nil, Bool.false_and, Bool.true_and, Bool.or_false, Bool.false_or, Bool.and_false, Bool.and_true, s10], by simp (disch := first | (simp only [go_sem, Bool.and_self, eq_self]; done) | omega | (simp only [List.length_cons, List.length_nil]; omega)) only [go_sem, ↓reduceIte, Nat.reduceEqDiff, Nat.reduceAdd, Nat.reduceMul, Nat.reduceSub, Int.reduceToNat, Nat.reduceBEq, List.size_toArray, List.length_cons, List.length_nil, Bool.false_and, Bool.true_and, Bool.or_false, Bool.false_or, Bool.and_false, Bool.and_true, s11], by simp (disch := first | (simp only [go_sem, Bool.and_self, eq_self]; done) | omega | (simp only [List.length_cons, List.length_nil]; omega)) only [go_sem, ↓reduceIte, Nat.reduceEqDiff, Nat.reduceAdd, Nat.reduceMul, Nat.reduceSub, Int.reduceToNat, Nat.reduceBEq, List.size_toArray, List.length_cons, List.length_nil, Bool.false_and, Bool.true_and, Bool.or_false, Bool.false_or, Bool.and_false, Bool.and_true, s12], by simp (disch := first | (simp only [go_sem, Bool.and_self, eq_self]; done) | omega | (simp only [List.length_cons, List.length_nil]; omega)) only [go_sem, ↓reduceIte, Nat.reduceEqDiff, Nat.reduceAdd, Nat.reduceMul, Nat.reduceSub, Int.reduceToNat, Nat.reduceBEq, List.size_toArray, List.length_cons, List.length_nil, Bool.false_and, Bool.true_and, Bool.or_false, Bool.false_or, Bool.and_false, Bool.and_true, s4], by simp (disch := first | (simp only [go_sem, Bool.and_self, eq_self]; done) | omega | (simp only [List.length_cons, List.length_nil]; omega)) only [go_sem, ↓reduceIte, Nat.reduceEqDiff, Nat.reduceAdd, Nat.reduceMul, Nat.reduceSub, Int.reduceToNat, Nat.reduceBEq, List.size_toArray, List.length_cons, List.length_nil, Bool.false_and, Bool.true_and, Bool.or_false, Bool.false_or, Bool.and_false, Bool.and_true, s17], by simp (disch := first | (simp only [go_sem, Bool.and_self, eq_self]; done) | omega | (simp only [List.length_cons, List.length_nil]; omega)) only [go_sem, ↓reduceIte, Nat.reduceEqDiff, Nat.reduceAdd, Nat.reduceMul, Nat.reduceSub, Int.reduceToNat, Nat.reduceBEq, List.size_toArray, List.length_cons, List.length_nil, Bool.false_and, Bool.true_and, Bool.or_false, Bool.false_or, Bool.and_false, Bool.and_true, s18], by simp (disch := first | (simp only [go_sem, Bool.and_self, eq_self]; done) | omega | (simp only [List.length_cons, List.length_nil]; omega)) only [go_sem, ↓reduceIte, Nat.reduceEqDiff, Nat.reduceAdd, Nat.reduceMul, Nat.reduceSub, Int.reduceToNat, Nat.reduceBEq, List.size_toArray, List.length_cons, List.length_nil, Bool.false_and, Bool.true_and, Bool.or_false, Bool.false_or, Bool.and_false, Bool.and_true, s6], by simp (disch := first | (simp only [go_sem, Bool.and_self, eq_self]; done) | omega | (simp only [List.length_cons, List.length_nil]; omega)) only [go_sem, ↓reduceIte, Nat.reduceEqDiff, Nat.reduceAdd, Nat.reduceMul, Nat.reduceSub, Int.reduceToNat, Nat.reduceBEq, List.size_toArray, List.length_cons, List.length_nil, Bool.false_and, Bool.true_and, Bool.or_false, Bool.false_or, Bool.and_false, Bool.and_true, s19], by simp (disch := first | (simp only [go_sem, Bool.and_self, eq_self]; done) | omega | (simp only [List.length_cons, List.length_nil]; omega)) only [go_sem, ↓reduceIte, Nat.reduceEqDiff, Nat.reduceAdd, Nat.reduceMul, Nat.reduceSub, Int.reduceToNat, Nat.reduceBEq, List.size_toArray, List.length_cons, List.length_nil, Bool.false_and, Bool.true_and, Bool.or_false, Bool.false_or, Bool.and_false, Bool.and_true, s26], by simp (disch := first | (simp only [go_sem, Bool.and_self, eq_self]; done) | omega | (simp only [List.length_cons, List.length_nil]; omega)) only [go_sem, ↓reduceIte, Nat.reduceEqDiff, Nat.reduceAdd, Nat.reduceMul, Nat.reduceSub, Int.reduceToNat, Nat.reduceBEq, List.size_toArray, List.length_cons, List.length_nil, Bool.false_and, Bool.true_and, Bool.or_false, Bool.false_or, Bool.and_false, Bool.and_true, s27], X ||| 2 ^ (i * 6 + j), by simp (disch := first | (simp only [go_sem, Bool.and_self, eq_self]; done) | omega | (simp only [List.length_cons, List.length_nil]; omega)) only [go_sem, ↓reduceIte, Nat.reduceEqDiff, Nat.reduceAdd, Nat.reduceMul, Nat.reduceSub, Int.reduceToNat, Nat.reduceBEq, List.size_toArray, List.length_cons, List.length_nil, Bool.false_and, Bool.true_and, Bool.or_false, Bool.false_or, Bool.and_false, Bool.and_true], bits_congr (bits_or hX (k0 := i) (j0 := j) (by omega)) fun k j' hj' => ?_⟩
  rw [hany, decide_eq_true h1, Bool.or_true, Bool.and_true, Bool.or_assoc]
  congr 1
  cases (decide (k = i) && decide (j' = j)) <;> simp
theorem k53 {a : List (List Int)} (f : Pl a) : ConW Try.prog cfg 53 h (some ([LLI a], h')) K = K (I (badM a)) h := ConW_num (f53_con f) rfl
end Go.Proofs.Ytkjdnnedncomgaa

set_option linter.unusedVariables false
set_option linter.unusedSimpArgs false
set_option maxRecDepth 10000
namespace Go.Proofs.Ytkjdnnedncomgaa
open Go Go.Am

variable {h h' : Hp} {K : AV → Hp → Prop}

/-- All ways to go on with the depths of m more keys. -/
def lv (d : Nat) : Nat → List Int → Nat → List (List Int)
  | 0, path, _ => [path]
  | m + 1, path, used => (List.range (min (used + 1) d)).flatMap fun i => lv d m (path ++ [((i + 1 : Nat) : Int)]) (max used (i + 1))
theorem lv_len (d : Nat) : ∀ m path used, (lv d m path used).length ≤ d ^ m := by
  intro m
  induction m with
  | zero => intro path used; simp [lv]
  | succ m ih =>
    intro path used
    rw [lv, List.length_flatMap]
    have : ∀ l : List Nat, (l.map fun i => (lv d m (path ++ [((i + 1 : Nat) : Int)]) (max used (i + 1))).length).sum ≤ l.length * d ^ m := by
      intro l
      induction l with
      | nil => simp
      | cons x l ih2 => simp only [List.map_cons, List.sum_cons, List.length_cons, Nat.succ_mul]; have := ih (path ++ [((x + 1 : Nat) : Int)]) (max used (x + 1)); omega
    refine Nat.le_trans (this _) ?_
    rw [List.length_range, Nat.pow_succ, Nat.mul_comm]
    exact Nat.mul_le_mul_left _ (Nat.min_le_right _ _)

/-- One colouring more: kept if what it keeps apart is new. -/
def addC (a : List (List Int)) (acc : List (Nat × List Int)) (x : List Int) : List (Nat × List Int) := if acc.any (fun p => decide (p.1 = blk a x)) then acc else acc ++ [(blk a x, x)]
theorem addC_len (a : List (List Int)) (l : List (List Int)) : ∀ acc, (l.foldl (addC a) acc).length ≤ acc.length + l.length := by
  induction l with
  | nil => intro acc; simp
  | cons x l ih =>
    intro acc
    rw [List.foldl_cons]
    have := ih (addC a acc x)
    have h2 : (addC a acc x).length ≤ acc.length + 1 := by
      unfold addC; split
      · omega
      · simp
    rw [List.length_cons]; omega

/-- What is found so far: each set once, each with depths. -/
structure AccOk (a : List (List Int)) (d : Int) (acc : List (Nat × List Int)) : Prop where
  pw : acc.Pairwise fun p q => p.1 ≠ q.1
  dep : ∀ p ∈ acc, Dep p.2 a.length d
  eq : ∀ p ∈ acc, p.1 = blk a p.2
theorem AccOk.add {a : List (List Int)} {d : Int} {acc : List (Nat × List Int)} (o : AccOk a d acc) {x : List Int} (hx : Dep x a.length d) : AccOk a d (addC a acc x) := by
  unfold addC
  split
  · exact o
  · rename_i hn
    refine ⟨?_, ?_, ?_⟩
    · rw [List.pairwise_append]
      refine ⟨o.pw, by simp, fun p hp q hq => ?_⟩
      simp at hq
      subst hq
      intro e
      exact hn (List.any_eq_true.2 ⟨p, hp, by simpa using e⟩)
    · intro p hp
      rcases List.mem_append.1 hp with h | h
      · exact o.dep p h
      · simp at h; subst h; exact hx
    · intro p hp
      rcases List.mem_append.1 hp with h | h
      · exact o.eq p h
      · simp at h; subst h; rfl
def esOf (acc : List (Nat × List Int)) : List (Int × AV) := acc.map fun p => ((p.1 : Int), AV.agg (eC p.2))
def lsOf (acc : List (Nat × List Int)) : List Int := acc.map fun p => (p.1 : Int)
theorem findK_acc {acc : List (Nat × List Int)} (hp : acc.Pairwise fun p q => p.1 ≠ q.1) {p : Nat × List Int} (h : p ∈ acc) : findK (p.1 : Int) (esOf acc) = some (.agg (eC p.2)) := by
  induction acc with
  | nil => cases h
  | cons q acc ih =>
    rw [List.pairwise_cons] at hp
    rw [esOf, List.map_cons, findK]
    rcases List.mem_cons.1 h with rfl | h
    · simp
    · have := hp.1 p h
      rw [if_neg (by omega)]
      exact ih hp.2 h

abbrev zero6 : AV := .agg [I 0, I 0, I 0, I 0, I 0, I 0]
theorem eC_eq (x : List Int) : eC x = [I (nth x 0), I (nth x 1), I (nth x 2), I (nth x 3), I (nth x 4), I (nth x 5)] := rfl
theorem guard69 : Try.prog.eqGuardType Try.prog.depth 69 = false := by kernel_rfl
theorem eql69 (x : List Int) (hx : nth x 0 ≠ 0) : binA Try.prog .eql 69 (.agg (eC x)) zero6 = some (.bool false) := by
  have e : eqA Try.prog 69 (.agg (eC x)) zero6 = some false := by
    simp [eqA, eqAgg, guard69, und69, und3, isz3, eqArr, eqCell, eC_eq, hx]
  simp only [binA, isEq, Option.bind_some, e, Option.map_some]
  rfl
theorem eql69z : binA Try.prog .eql 69 zero6 zero6 = some (.bool true) := by
  have e : eqA Try.prog 69 zero6 zero6 = some true := by
    simp [eqA, eqAgg, guard69, und69, und3, isz3, eqArr, eqCell]
  simp only [binA, isEq, Option.bind_some, e, Option.map_some]
  rfl
theorem build69 : buildB Try.prog (some (.array 6 3)) (some zero6) [] = some zero6 := by
  simp [buildB, isz3, fillA, AV.isCell]

abbrev capsC : List AV := [.ptr 0 0, .ptr 5 0, .ptr 3 0, .ptr 4 0, .ptr 1 0, .ptr 6 0]
/-- Memory while colourings are tried. -/
structure Inv (a : List (List Int)) (d : Nat) (h : Hp) (acc : List (Nat × List Int)) (xs : List Int) : Prop where
  nx : 7 ≤ h.nx
  b0 : h.bl 0 = some (.cells false false [LLI a])
  b1 : h.bl 1 = some (.cells false false [I d])
  b2 : h.bl 2 = some (.mp false (esOf acc))
  b3 : h.bl 3 = some (.cells false false [.mp 2])
  b4 : ∃ v, h.bl 4 = some (.cells false false [v]) ∧ Own (e1 I) 1 h v (lsOf acc) ∧ ∀ id off n sz, v = .sl id off n sz → 7 ≤ id
  b5 : h.bl 5 = some (.cells false false (xs.flatMap (e1 I)))
  b6 : h.bl 6 = some (.cells false false [.fn 57 capsC])
  xl : xs.length = 6
  ok : AccOk a d acc

theorem app4 {v : AV} {xs : List Int} {h2 : Hp} (o : Own (e1 I) 1 h2 v xs) (n : Int) (hl : xs.length ≤ 1000000) :
    appB Try.prog h2 (some (.slice 80)) true v (.lst [[I n]]) = some (appV h2 (xs ++ [n]).length 1, appH h2 v ((xs ++ [n]).flatMap (e1 I))) :=
  app_one (P := Try.prog) o 80 8 (I 0) n isz80 ibytes80 izero80 rfl (by omega) (by omega)

theorem f57_shr {a : List (List Int)} (f : Pl a) {d : Nat} (hd : 1 ≤ d ∧ d ≤ 4) : ∀ (m k : Nat) (path : List Int) (used : Nat) (acc : List (Nat × List Int)) (xs : List Int) (h : Hp), k + m = a.length → path.length = k → Dep path k d → used ≤ d →
    (∀ i, i < k → nth xs i = nth path i) → (∀ i, a.length ≤ i → nth xs i = 0) → Inv a d h acc xs → acc.length + (lv d m path used).length ≤ 1000000 →
    ∃ h' xs', Shr Try.prog cfg 57 ([I k, I used] ++ capsC) h (.tup []) h' ∧ Inv a d h' ((lv d m path used).foldl (addC a) acc) xs' ∧ (∀ i, i < k → nth xs' i = nth path i) ∧ (∀ i, a.length ≤ i → nth xs' i = 0) := by
  intro m
  have hk6 := f.keys
  induction m with
  | zero =>
    intro k path used acc xs h hkm hpl hdp hud hxp hxz inv hcap
    obtain ⟨v, b4, how, hv⟩ := inv.b4
    have hxs : xs.flatMap (e1 I) = eC path := by
      rw [eC]
      congr 1
      refine list_ext_nth (by rw [inv.xl, pad6_len]) fun i hi => ?_
      rw [inv.xl] at hi
      rw [pad6_nth hi]
      rcases Nat.lt_or_ge i k with h1 | h1
      · exact hxp i h1
      · rw [hxz i (by omega)]
        simp [nth, List.getElem?_eq_none (show path.length ≤ i by omega)]
    have hkn : k = a.length := by omega
    subst hkn
    have hdp' : Dep path a.length d := hdp
    have kk := fun h h' K => k58 (h := h) (h' := h') (K := K) f (d := (d : Int)) (by omega) hdp'
    have hld := loadC_row (f := eC) (.array 6 3) rfl path
    have hpu : AV.pureL (eC path) = true := RowEnc.pure (f := eC) path
    have hlk := lookB_one 80 69 .i64 zero6 2 false (esOf acc) (blk a path : Int) false rfl
    suffices hh : ∃ v h', Shr Try.prog cfg 57 [I a.length, I used, .ptr 0 0, .ptr 5 0, .ptr 3 0, .ptr 4 0, .ptr 1 0, .ptr 6 0] h v h' ∧ (v = .tup [] ∧ ∃ xs', Inv a d h' (addC a acc path) xs' ∧ (∀ i, i < a.length → nth xs' i = nth path i) ∧ (∀ i, a.length ≤ i → nth xs' i = 0)) by
      obtain ⟨v, h', hs, rfl, xs', h1, h2, h3⟩ := hh
      exact ⟨h', xs', hs, by simpa [lv] using h1, h2, h3⟩
    refine Shr_intro Try.func57 rfl ok57 (Nat.le_of_ble_eq_true rfl) ?_
    simp only [Try.f57, Option.getD_some, initSt8]
    by_cases hany : acc.any (fun p => decide (p.1 = blk a path)) = true
    · obtain ⟨p, hp, he⟩ := List.any_eq_true.1 hany
      simp only [decide_eq_true_eq] at he
      have hfk := findK_acc inv.ok.pw hp
      rw [he] at hfk
      rw [hfk, Option.getD_some] at hlk
      have hne := eql69 p.2 (by have := inv.ok.dep p hp 0 (by omega); omega)
      simp (disch := first | (simp only [go_sem, Bool.and_self, eq_self]; done) | omega | (simp only [List.length_cons, List.length_nil]; omega)) only [go_sem, ↓reduceIte, Nat.reduceEqDiff, Nat.reduceAdd, Nat.reduceMul, Nat.reduceSub, Int.reduceToNat, Nat.reduceBEq, List.size_toArray, List.length_cons, List.length_nil, Bool.false_and, Bool.true_and, Bool.or_false, Bool.false_or, Bool.and_false, Bool.and_true, List.cons_append, List.nil_append, inv.b0, inv.b5, hxs, hld, sealA_agg _ hpu, kk, inv.b3, inv.b2, hlk, build69, hne]
      refine ⟨xs, ?_, hxp, hxz⟩
      rw [addC, if_pos hany]; exact inv
    · have hno : ∀ q ∈ esOf acc, q.1 ≠ (blk a path : Int) := by
        intro q hq e
        simp only [esOf, List.mem_map] at hq
        obtain ⟨p, hp, rfl⟩ := hq
        exact hany (List.any_eq_true.2 ⟨p, hp, by simp only [decide_eq_true_eq]; have e' : (p.1 : Int) = (blk a path : Int) := e; omega⟩)
      have hfk := findK_none hno
      rw [hfk, Option.getD_none] at hlk
      have hput := putK_none (x := .agg (eC path)) hno
      have hlen : (lsOf acc).length ≤ 1000000 := by simp [lsOf]; omega
      have hbs := fun h : Hp => bsB_one (P := Try.prog) (h := h) 80 (I (blk a path)) (I (blk a path)) (I 0) h isz80 izero80 rfl rfl rfl rfl rfl rfl rfl
      generalize hG : h.put 2 (some (.mp false (esOf acc ++ [((blk a path : Int), .agg (eC path))]))) = G
      have hG1 : ∀ id, id ≠ 2 → G.bl id = h.bl id := by intro id hid; rw [← hG, put_bl, if_neg hid]
      have hG2 : G.nx = h.nx := by rw [← hG]; rfl
      have hG3 : G.bl 2 = some (.mp false (esOf acc ++ [((blk a path : Int), .agg (eC path))])) := by rw [← hG, put_bl, if_pos rfl]
      have howG : Own (e1 I) 1 G v (lsOf acc) := by
        rcases how with o | ⟨id, q1, q2, q3⟩
        · exact .inl o
        · exact .inr ⟨id, q1, by omega, by rw [hG1 id (by have := hv _ _ _ _ q1; omega)]; exact q3⟩
      have happ := app4 howG (blk a path : Int) hlen
      have c0 := hG1 0 (by decide)
      have c4 : G.bl 4 = some (.cells false false [v]) := by rw [hG1 4 (by decide)]; exact b4
      have keep : ∀ id, id < 7 → (appH G v ((lsOf acc ++ [(blk a path : Int)]).flatMap (e1 I))).bl id = G.bl id := by
        intro id hid
        have := inv.nx
        exact appH_bl _ _ _ _ (by omega) (fun id' off n sz e => by have := hv _ _ _ _ e; omega)
      have k4 := keep 4 (by decide)
      rw [c4] at k4
      simp (disch := first | (simp only [go_sem, Bool.and_self, eq_self]; done) | omega | (simp only [List.length_cons, List.length_nil]; omega)) only [go_sem, ↓reduceIte, Nat.reduceEqDiff, Nat.reduceAdd, Nat.reduceMul, Nat.reduceSub, Int.reduceToNat, Nat.reduceBEq, List.size_toArray, List.length_cons, List.length_nil, Bool.false_and, Bool.true_and, Bool.or_false, Bool.false_or, Bool.and_false, Bool.and_true, List.cons_append, List.nil_append, inv.b0, inv.b5, hxs, hld, sealA_agg _ hpu, kk, inv.b3, inv.b2, hlk, build69, eql69z, hput, hG, hbs, c4, happ, k4, appV]
      refine ⟨xs, ?_, hxp, hxz⟩
      rw [addC, if_neg hany]
      have hnx := inv.nx
      refine ⟨by simp (disch := first | (simp only [go_sem, Bool.and_self, eq_self]; done) | omega | (simp only [List.length_cons, List.length_nil]; omega)) only [go_sem, ↓reduceIte, Nat.reduceEqDiff, Nat.reduceAdd, Nat.reduceMul, Nat.reduceSub, Int.reduceToNat, Nat.reduceBEq, List.size_toArray, List.length_cons, List.length_nil, Bool.false_and, Bool.true_and, Bool.or_false, Bool.false_or, Bool.and_false, Bool.and_true, appH_nx]; omega, ?_, ?_, ?_, ?_, ⟨_, by simp (disch := first | (simp only [go_sem, Bool.and_self, eq_self]; done) | omega | (simp only [List.length_cons, List.length_nil]; omega)) only [go_sem, ↓reduceIte, Nat.reduceEqDiff, Nat.reduceAdd, Nat.reduceMul, Nat.reduceSub, Int.reduceToNat, Nat.reduceBEq, List.size_toArray, List.length_cons, List.length_nil, Bool.false_and, Bool.true_and, Bool.or_false, Bool.false_or, Bool.and_false, Bool.and_true]; rfl, ?_, ?_⟩, ?_, ?_, inv.xl, ?_⟩
      · simp (disch := first | (simp only [go_sem, Bool.and_self, eq_self]; done) | omega | (simp only [List.length_cons, List.length_nil]; omega)) only [go_sem, ↓reduceIte, Nat.reduceEqDiff, Nat.reduceAdd, Nat.reduceMul, Nat.reduceSub, Int.reduceToNat, Nat.reduceBEq, List.size_toArray, List.length_cons, List.length_nil, Bool.false_and, Bool.true_and, Bool.or_false, Bool.false_or, Bool.and_false, Bool.and_true, keep 0 (by decide), hG1 0 (by decide), inv.b0]
      · simp (disch := first | (simp only [go_sem, Bool.and_self, eq_self]; done) | omega | (simp only [List.length_cons, List.length_nil]; omega)) only [go_sem, ↓reduceIte, Nat.reduceEqDiff, Nat.reduceAdd, Nat.reduceMul, Nat.reduceSub, Int.reduceToNat, Nat.reduceBEq, List.size_toArray, List.length_cons, List.length_nil, Bool.false_and, Bool.true_and, Bool.or_false, Bool.false_or, Bool.and_false, Bool.and_true, keep 1 (by decide), hG1 1 (by decide), inv.b1]
      · simp (disch := first | (simp only [go_sem, Bool.and_self, eq_self]; done) | omega | (simp only [List.length_cons, List.length_nil]; omega)) only [go_sem, ↓reduceIte, Nat.reduceEqDiff, Nat.reduceAdd, Nat.reduceMul, Nat.reduceSub, Int.reduceToNat, Nat.reduceBEq, List.size_toArray, List.length_cons, List.length_nil, Bool.false_and, Bool.true_and, Bool.or_false, Bool.false_or, Bool.and_false, Bool.and_true, keep 2 (by decide), hG3]
        simp [esOf]
      · simp (disch := first | (simp only [go_sem, Bool.and_self, eq_self]; done) | omega | (simp only [List.length_cons, List.length_nil]; omega)) only [go_sem, ↓reduceIte, Nat.reduceEqDiff, Nat.reduceAdd, Nat.reduceMul, Nat.reduceSub, Int.reduceToNat, Nat.reduceBEq, List.size_toArray, List.length_cons, List.length_nil, Bool.false_and, Bool.true_and, Bool.or_false, Bool.false_or, Bool.and_false, Bool.and_true, keep 3 (by decide), hG1 3 (by decide), inv.b3]
      · have o := Own.app (f := e1 I) (sz := 1) G v (lsOf acc ++ [(blk a path : Int)])
        have e : lsOf (acc ++ [(blk a path, path)]) = lsOf acc ++ [(blk a path : Int)] := by simp [lsOf]
        rw [e]
        rcases o with ⟨q, _⟩ | ⟨id, q1, q2, q3⟩
        · unfold appV at q; cases q
        · refine .inr ⟨id, q1, q2, ?_⟩
          have : id = G.nx := by unfold appV at q1; cases q1; rfl
          rw [put_bl, if_neg (by omega)]; exact q3
      · intro id off n sz e; cases e; omega
      · simp (disch := first | (simp only [go_sem, Bool.and_self, eq_self]; done) | omega | (simp only [List.length_cons, List.length_nil]; omega)) only [go_sem, ↓reduceIte, Nat.reduceEqDiff, Nat.reduceAdd, Nat.reduceMul, Nat.reduceSub, Int.reduceToNat, Nat.reduceBEq, List.size_toArray, List.length_cons, List.length_nil, Bool.false_and, Bool.true_and, Bool.or_false, Bool.false_or, Bool.and_false, Bool.and_true, keep 5 (by decide), hG1 5 (by decide), inv.b5]
      · simp (disch := first | (simp only [go_sem, Bool.and_self, eq_self]; done) | omega | (simp only [List.length_cons, List.length_nil]; omega)) only [go_sem, ↓reduceIte, Nat.reduceEqDiff, Nat.reduceAdd, Nat.reduceMul, Nat.reduceSub, Int.reduceToNat, Nat.reduceBEq, List.size_toArray, List.length_cons, List.length_nil, Bool.false_and, Bool.true_and, Bool.or_false, Bool.false_or, Bool.and_false, Bool.and_true, keep 6 (by decide), hG1 6 (by decide), inv.b6]
      · have := inv.ok.add hdp'
        rw [addC, if_neg hany] at this
        exact this
  | succ m ih =>
    intro k path used acc xs h hkm hpl hdp hud hxp hxz inv hcap
    suffices hh : ∃ v h', Shr Try.prog cfg 57 [I k, I used, .ptr 0 0, .ptr 5 0, .ptr 3 0, .ptr 4 0, .ptr 1 0, .ptr 6 0] h v h' ∧ (v = .tup [] ∧ ∃ xs', Inv a d h' ((lv d (m + 1) path used).foldl (addC a) acc) xs' ∧ (∀ i, i < k → nth xs' i = nth path i) ∧ (∀ i, a.length ≤ i → nth xs' i = 0)) by
      obtain ⟨v, h', hs, rfl, xs', h1, h2, h3⟩ := hh
      exact ⟨h', xs', hs, h1, h2, h3⟩
    refine Shr_intro Try.func57 rfl ok57 (Nat.le_of_ble_eq_true rfl) ?_
    simp only [Try.f57, Option.getD_some, initSt8]
    have hkn : ¬ k = a.length := by omega
    simp (disch := first | (simp only [go_sem, Bool.and_self, eq_self]; done) | omega | (simp only [List.length_cons, List.length_nil]; omega)) only [go_sem, ↓reduceIte, Nat.reduceEqDiff, Nat.reduceAdd, Nat.reduceMul, Nat.reduceSub, Int.reduceToNat, Nat.reduceBEq, List.size_toArray, List.length_cons, List.length_nil, Bool.false_and, Bool.true_and, Bool.or_false, Bool.false_or, Bool.and_false, Bool.and_true, List.cons_append, List.nil_append, inv.b0, hkn]
    refine WP_for1 11 (min (used + 1) d) (fun i st h => st 0 = I k ∧ st 1 = I used ∧ st 2 = .ptr 0 0 ∧ st 3 = .ptr 5 0 ∧ st 4 = .ptr 3 0 ∧ st 5 = .ptr 4 0 ∧ st 6 = .ptr 1 0 ∧ st 7 = .ptr 6 0 ∧ ∃ xs', Inv a d h (((List.range i).flatMap fun i => lv d m (path ++ [((i + 1 : Nat) : Int)]) (max used (i + 1))).foldl (addC a) acc) xs' ∧ (∀ i, i < k → nth xs' i = nth path i) ∧ (∀ i, a.length ≤ i → nth xs' i = 0))
      (by simp (disch := first | (simp only [go_sem, Bool.and_self, eq_self]; done) | omega | (simp only [List.length_cons, List.length_nil]; omega)) only [go_sem, ↓reduceIte, Nat.reduceEqDiff, Nat.reduceAdd, Nat.reduceMul, Nat.reduceSub, Int.reduceToNat, Nat.reduceBEq, List.size_toArray, List.length_cons, List.length_nil, Bool.false_and, Bool.true_and, Bool.or_false, Bool.false_or, Bool.and_false, Bool.and_true]) ⟨by simp (disch := first | (simp only [go_sem, Bool.and_self, eq_self]; done) | omega | (simp only [List.length_cons, List.length_nil]; omega)) only [go_sem, ↓reduceIte, Nat.reduceEqDiff, Nat.reduceAdd, Nat.reduceMul, Nat.reduceSub, Int.reduceToNat, Nat.reduceBEq, List.size_toArray, List.length_cons, List.length_nil, Bool.false_and, Bool.true_and, Bool.or_false, Bool.false_or, Bool.and_false, Bool.and_true], by simp (disch := first | (simp only [go_sem, Bool.and_self, eq_self]; done) | omega | (simp only [List.length_cons, List.length_nil]; omega)) only [go_sem, ↓reduceIte, Nat.reduceEqDiff, Nat.reduceAdd, Nat.reduceMul, Nat.reduceSub, Int.reduceToNat, Nat.reduceBEq, List.size_toArray, List.length_cons, List.length_nil, Bool.false_and, Bool.true_and, Bool.or_false, Bool.false_or, Bool.and_false, Bool.and_true], by simp (disch := first | (simp only [go_sem, Bool.and_self, eq_self]; done) | omega | (simp only [List.length_cons, List.length_nil]; omega)) only [go_sem, ↓reduceIte, Nat.reduceEqDiff, Nat.reduceAdd, Nat.reduceMul, Nat.reduceSub, Int.reduceToNat, Nat.reduceBEq, List.size_toArray, List.length_cons, List.length_nil, Bool.false_and, Bool.true_and, Bool.or_false, Bool.false_or, Bool.and_false, Bool.and_true], by simp (disch := first | (simp only [go_sem, Bool.and_self, eq_self]; done) | omega | (simp only [List.length_cons, List.length_nil]; omega)) only [go_sem, ↓reduceIte, Nat.reduceEqDiff, Nat.reduceAdd, Nat.reduceMul, Nat.reduceSub, Int.reduceToNat, Nat.reduceBEq, List.size_toArray, List.length_cons, List.length_nil, Bool.false_and, Bool.true_and, Bool.or_false, Bool.false_or, Bool.and_false, Bool.and_true], by simp (disch := first | (simp only [go_sem, Bool.and_self, eq_self]; done) | omega | (simp only [List.length_cons, List.length_nil]; omega)) only [go_sem, ↓reduceIte, Nat.reduceEqDiff, Nat.reduceAdd, Nat.reduceMul, Nat.reduceSub, Int.reduceToNat, Nat.reduceBEq, List.size_toArray, List.length_cons, List.length_nil, Bool.false_and, Bool.true_and, Bool.or_false, Bool.false_or, Bool.and_false, Bool.and_true], by simp (disch := first | (simp only [go_sem, Bool.and_self, eq_self]; done) | omega | (simp only [List.length_cons, List.length_nil]; omega)) only [go_sem, ↓reduceIte, Nat.reduceEqDiff, Nat.reduceAdd, Nat.reduceMul, Nat.reduceSub, Int.reduceToNat, Nat.reduceBEq, List.size_toArray, List.length_cons, List.length_nil, Bool.false_and, Bool.true_and, Bool.or_false, Bool.false_or, Bool.and_false, Bool.and_true], by simp (disch := first | (simp only [go_sem, Bool.and_self, eq_self]; done) | omega | (simp only [List.length_cons, List.length_nil]; omega)) only [go_sem, ↓reduceIte, Nat.reduceEqDiff, Nat.reduceAdd, Nat.reduceMul, Nat.reduceSub, Int.reduceToNat, Nat.reduceBEq, List.size_toArray, List.length_cons, List.length_nil, Bool.false_and, Bool.true_and, Bool.or_false, Bool.false_or, Bool.and_false, Bool.and_true], by simp (disch := first | (simp only [go_sem, Bool.and_self, eq_self]; done) | omega | (simp only [List.length_cons, List.length_nil]; omega)) only [go_sem, ↓reduceIte, Nat.reduceEqDiff, Nat.reduceAdd, Nat.reduceMul, Nat.reduceSub, Int.reduceToNat, Nat.reduceBEq, List.size_toArray, List.length_cons, List.length_nil, Bool.false_and, Bool.true_and, Bool.or_false, Bool.false_or, Bool.and_false, Bool.and_true], xs, by simpa using inv, hxp, hxz⟩ ?_
    rintro i st h hi s11 ⟨s0, s1, s2, s3, s4, s5, s6, s7, xs, inv, hxp, hxz⟩
    have hb1 := inv.b1
    by_cases hlt : i < min (used + 1) d
    case neg =>
      have hie : i = min (used + 1) d := by omega
      have hcm : ¬ (i : Int) + 1 ≤ min ((used : Int) + 1) (d : Int) := by omega
      simp (disch := first | (simp only [go_sem, Bool.and_self, eq_self]; done) | omega | (simp only [List.length_cons, List.length_nil]; omega)) only [go_sem, ↓reduceIte, Nat.reduceEqDiff, Nat.reduceAdd, Nat.reduceMul, Nat.reduceSub, Int.reduceToNat, Nat.reduceBEq, List.size_toArray, List.length_cons, List.length_nil, Bool.false_and, Bool.true_and, Bool.or_false, Bool.false_or, Bool.and_false, Bool.and_true, s0, s1, s2, s3, s4, s5, s6, s7, s11, hb1, hcm]
      subst hie
      exact ⟨xs, inv, hxp, hxz⟩
    have hcm : (i : Int) + 1 ≤ min ((used : Int) + 1) (d : Int) := by omega
    have hkx : k < xs.length := by rw [inv.xl]; omega
    have e2 : max (used : Int) ((i : Int) + 1) = ((max used (i + 1) : Nat) : Int) := by omega
    simp (disch := first | (simp only [go_sem, Bool.and_self, eq_self]; done) | omega | (simp only [List.length_cons, List.length_nil]; omega)) only [go_sem, ↓reduceIte, Nat.reduceEqDiff, Nat.reduceAdd, Nat.reduceMul, Nat.reduceSub, Int.reduceToNat, Nat.reduceBEq, List.size_toArray, List.length_cons, List.length_nil, Bool.false_and, Bool.true_and, Bool.or_false, Bool.false_or, Bool.and_false, Bool.and_true, s0, s1, s2, s3, s4, s5, s6, s7, s11, hb1, hcm, inv.b5, hkx, inv.b6, e2]
    generalize hG : h.put 5 (some (.cells false false ((xs.set k ((i : Int) + 1)).flatMap (e1 I)))) = G
    have hG1 : ∀ id, id ≠ 5 → G.bl id = h.bl id := by intro id hid; rw [← hG, put_bl, if_neg hid]
    have hG2 : G.nx = h.nx := by rw [← hG]; rfl
    have hG3 : G.bl 5 = some (.cells false false ((xs.set k ((i : Int) + 1)).flatMap (e1 I))) := by rw [← hG, put_bl, if_pos rfl]
    have invG : Inv a d G (((List.range i).flatMap fun i => lv d m (path ++ [((i + 1 : Nat) : Int)]) (max used (i + 1))).foldl (addC a) acc) (xs.set k ((i : Int) + 1)) := by
      refine ⟨by rw [hG2]; exact inv.nx, by rw [hG1 0 (by decide)]; exact inv.b0, by rw [hG1 1 (by decide)]; exact inv.b1, by rw [hG1 2 (by decide)]; exact inv.b2, by rw [hG1 3 (by decide)]; exact inv.b3, ?_, hG3, by rw [hG1 6 (by decide)]; exact inv.b6, by rw [List.length_set]; exact inv.xl, inv.ok⟩
      obtain ⟨v, q1, q2, q3⟩ := inv.b4
      refine ⟨v, by rw [hG1 4 (by decide)]; exact q1, ?_, q3⟩
      rcases q2 with o | ⟨id, z1, z2, z3⟩
      · exact .inl o
      · exact .inr ⟨id, z1, by omega, by rw [hG1 id (by have := q3 _ _ _ _ z1; omega)]; exact z3⟩
    have hlen : ((((List.range i).flatMap fun i => lv d m (path ++ [((i + 1 : Nat) : Int)]) (max used (i + 1))).foldl (addC a) acc)).length + (lv d m (path ++ [((i + 1 : Nat) : Int)]) (max used (i + 1))).length ≤ 1000000 := by
      have h1 := addC_len a ((List.range i).flatMap fun i => lv d m (path ++ [((i + 1 : Nat) : Int)]) (max used (i + 1))) acc
      have h2 : ((List.range i).flatMap fun i => lv d m (path ++ [((i + 1 : Nat) : Int)]) (max used (i + 1))).length + (lv d m (path ++ [((i + 1 : Nat) : Int)]) (max used (i + 1))).length ≤ (lv d (m + 1) path used).length := by
        have hsplit : List.range (min (used + 1) d) = List.range i ++ [i] ++ (List.range' (i + 1) (min (used + 1) d - (i + 1))) := by
          have := List.range'_append_1 (s := 0) (m := i + 1) (n := min (used + 1) d - (i + 1))
          rw [Nat.zero_add] at this
          rw [← List.range_succ, List.range_eq_range', List.range_eq_range', this]
          congr 1; omega
        rw [lv, hsplit, List.flatMap_append, List.flatMap_append, List.length_append, List.length_append]
        simp only [List.flatMap_cons, List.flatMap_nil, List.append_nil]
        omega
      omega
    have hset : ∀ j, j < k + 1 → nth (xs.set k ((i : Int) + 1)) j = nth (path ++ [((i + 1 : Nat) : Int)]) j := by
      intro j hj
      rw [nth_set _ _ _ _ hkx]
      by_cases hjk : k = j
      · subst hjk
        rw [if_pos rfl, ← hpl, nth_append_last]; rfl
      · rw [if_neg hjk, nth_append_left _ _ _ (by omega)]
        exact hxp j (by omega)
    obtain ⟨h2, xs2, hS, inv2, hx2, hz2⟩ := ih (k + 1) (path ++ [((i + 1 : Nat) : Int)]) (max used (i + 1)) _ _ G (by omega) (by simp [hpl]) (by
      intro j hj
      rcases Nat.lt_or_ge j k with h1 | h1
      · rw [nth_append_left _ _ _ (by omega)]; exact hdp j h1
      · have : j = path.length := by omega
        subst this
        rw [nth_append_last]; omega) (by omega) hset (by
      intro j hj
      rw [nth_set _ _ _ _ hkx, if_neg (by omega)]; exact hxz j hj) invG hlen
    have hS' : Shr Try.prog cfg 57 [I ((k : Int) + 1), I ((max used (i + 1) : Nat) : Int), .ptr 0 0, .ptr 5 0, .ptr 3 0, .ptr 4 0, .ptr 1 0, .ptr 6 0] G (.tup []) h2 := hS
    have hc := fun K => CallW_shr (K := K) 57 _ shr57 hS'
    simp (disch := first | (simp only [go_sem, Bool.and_self, eq_self]; done) | omega | (simp only [List.length_cons, List.length_nil]; omega)) only [go_sem, ↓reduceIte, Nat.reduceEqDiff, Nat.reduceAdd, Nat.reduceMul, Nat.reduceSub, Int.reduceToNat, Nat.reduceBEq, List.size_toArray, List.length_cons, List.length_nil, Bool.false_and, Bool.true_and, Bool.or_false, Bool.false_or, Bool.and_false, Bool.and_true, hc, s0, s1, s2, s3, s4, s5, s6, s7, s11]
    rw [For1K_normal]
    refine ⟨hlt, by simp (disch := first | (simp only [go_sem, Bool.and_self, eq_self]; done) | omega | (simp only [List.length_cons, List.length_nil]; omega)) only [go_sem, ↓reduceIte, Nat.reduceEqDiff, Nat.reduceAdd, Nat.reduceMul, Nat.reduceSub, Int.reduceToNat, Nat.reduceBEq, List.size_toArray, List.length_cons, List.length_nil, Bool.false_and, Bool.true_and, Bool.or_false, Bool.false_or, Bool.and_false, Bool.and_true, s11], by simp (disch := first | (simp only [go_sem, Bool.and_self, eq_self]; done) | omega | (simp only [List.length_cons, List.length_nil]; omega)) only [go_sem, ↓reduceIte, Nat.reduceEqDiff, Nat.reduceAdd, Nat.reduceMul, Nat.reduceSub, Int.reduceToNat, Nat.reduceBEq, List.size_toArray, List.length_cons, List.length_nil, Bool.false_and, Bool.true_and, Bool.or_false, Bool.false_or, Bool.and_false, Bool.and_true, s0], by simp (disch := first | (simp only [go_sem, Bool.and_self, eq_self]; done) | omega | (simp only [List.length_cons, List.length_nil]; omega)) only [go_sem, ↓reduceIte, Nat.reduceEqDiff, Nat.reduceAdd, Nat.reduceMul, Nat.reduceSub, Int.reduceToNat, Nat.reduceBEq, List.size_toArray, List.length_cons, List.length_nil, Bool.false_and, Bool.true_and, Bool.or_false, Bool.false_or, Bool.and_false, Bool.and_true, s1], by simp (disch := first | (simp only [go_sem, Bool.and_self, eq_self]; done) | omega | (simp only [List.length_cons, List.length_nil]; omega)) only [go_sem, ↓reduceIte, Nat.reduceEqDiff, Nat.reduceAdd, Nat.reduceMul, Nat.reduceSub, Int.reduceToNat, Nat.reduceBEq, List.size_toArray, List.length_cons, List.length_nil, Bool.false_and, Bool.true_and, Bool.or_false, Bool.false_or, Bool.and_false, Bool.and_true, s2], by simp (disch := first | (simp only [go_sem, Bool.and_self, eq_self]; done) | omega | (simp only [List.length_cons, List.length_nil]; omega)) only [go_sem, ↓reduceIte, Nat.reduceEqDiff, Nat.reduceAdd, Nat.reduceMul, Nat.reduceSub, Int.reduceToNat, Nat.reduceBEq, List.size_toArray, List.length_cons, List.length_nil, Bool.false_and, Bool.true_and, Bool.or_false, Bool.false_or, Bool.and_false, Bool.and_true, s3], by simp (disch := first | (simp only [go_sem, Bool.and_self, eq_self]; done) | omega | (simp only [List.length_cons, List.length_nil]; omega)) only [go_sem, ↓reduceIte, Nat.reduceEqDiff, Nat.reduceAdd, Nat.reduceMul, Nat.reduceSub, Int.reduceToNat, Nat.reduceBEq, List.size_toArray, List.length_cons, List.length_nil, Bool.false_and, Bool.true_and, Bool.or_false, Bool.false_or, Bool.and_false, Bool.and_true, s4], by simp (disch := first | (simp only [go_sem, Bool.and_self, eq_self]; done) | omega | (simp only [List.length_cons, List.length_nil]; omega)) only [go_sem, ↓reduceIte, Nat.reduceEqDiff, Nat.reduceAdd, Nat.reduceMul, Nat.reduceSub, Int.reduceToNat, Nat.reduceBEq, List.size_toArray, List.length_cons, List.length_nil, Bool.false_and, Bool.true_and, Bool.or_false, Bool.false_or, Bool.and_false, Bool.and_true, s5], by simp (disch := first | (simp only [go_sem, Bool.and_self, eq_self]; done) | omega | (simp only [List.length_cons, List.length_nil]; omega)) only [go_sem, ↓reduceIte, Nat.reduceEqDiff, Nat.reduceAdd, Nat.reduceMul, Nat.reduceSub, Int.reduceToNat, Nat.reduceBEq, List.size_toArray, List.length_cons, List.length_nil, Bool.false_and, Bool.true_and, Bool.or_false, Bool.false_or, Bool.and_false, Bool.and_true, s6], by simp (disch := first | (simp only [go_sem, Bool.and_self, eq_self]; done) | omega | (simp only [List.length_cons, List.length_nil]; omega)) only [go_sem, ↓reduceIte, Nat.reduceEqDiff, Nat.reduceAdd, Nat.reduceMul, Nat.reduceSub, Int.reduceToNat, Nat.reduceBEq, List.size_toArray, List.length_cons, List.length_nil, Bool.false_and, Bool.true_and, Bool.or_false, Bool.false_or, Bool.and_false, Bool.and_true, s7], xs2, ?_, fun j hj => ?_, hz2⟩
    · rw [List.range_succ, List.flatMap_append, List.foldl_append]
      simpa using inv2
    · rw [hx2 j (by omega), nth_append_left _ _ _ (by omega)]
end Go.Proofs.Ytkjdnnedncomgaa

set_option linter.unusedVariables false
set_option linter.unusedSimpArgs false
set_option maxRecDepth 10000
namespace Go.Proofs.Ytkjdnnedncomgaa
open Go Go.Am

variable {h h' : Hp} {K : AV → Hp → Prop}

/-- All different sets that one chamber can keep apart, each with its first colouring. -/
def accF (a : List (List Int)) (d : Nat) : List (Nat × List Int) := (lv d a.length [] 0).foldl (addC a) []
/-- No other set holds all of it. -/
def keepB (acc : List (Nat × List Int)) (p : Nat × List Int) : Bool := !acc.any fun q => decide (p.1 ≠ q.1) && decide (Sub p.1 q.1)
def optF (a : List (List Int)) (d : Nat) : List (Nat × List Int) := (accF a d).filter (keepB (accF a d))

theorem lv_dep {d : Nat} : ∀ (m : Nat) (path : List Int) (used : Nat), Dep path path.length d → used ≤ d → ∀ x ∈ lv d m path used, x.length = path.length + m ∧ Dep x x.length d := by
  intro m
  induction m with
  | zero => intro path used hp hu x hx; simp [lv] at hx; subst hx; exact ⟨rfl, hp⟩
  | succ m ih =>
    intro path used hp hu x hx
    rw [lv, List.mem_flatMap] at hx
    obtain ⟨i, hi, hx⟩ := hx
    have hi := List.mem_range.1 hi
    have := ih _ _ (by
      intro j hj
      rw [List.length_append, List.length_singleton] at hj
      rcases Nat.lt_or_ge j path.length with h1 | h1
      · rw [nth_append_left _ _ _ h1]; exact hp j h1
      · have : j = path.length := by omega
        subst this
        rw [nth_append_last]; omega) (by omega) x hx
    rw [List.length_append, List.length_singleton] at this
    exact ⟨by omega, this.2⟩
theorem accF_ok (a : List (List Int)) (d : Nat) : AccOk a d (accF a d) := by
  have : ∀ (l : List (List Int)) acc, AccOk a d acc → (∀ x ∈ l, Dep x a.length d) → AccOk a d (l.foldl (addC a) acc) := by
    intro l
    induction l with
    | nil => intro acc h _; exact h
    | cons x l ih => intro acc h hx; exact ih _ (h.add (hx x (by simp))) fun y hy => hx y (by simp [hy])
  refine this _ _ ⟨by simp, by simp, by simp⟩ fun x hx => ?_
  have := lv_dep (d := d) a.length [] 0 (fun i hi => by simp at hi) (by omega) x hx
  simp only [List.length_nil, Nat.zero_add] at this
  have h2 := this.2
  rwa [this.1] at h2
theorem accF_len {a : List (List Int)} (f : Pl a) {d : Nat} (hd : d ≤ 4) : (accF a d).length ≤ 4096 := by
  have h1 := addC_len a (lv d a.length [] 0) []
  have h2 := lv_len d a.length [] 0
  have h3 : d ^ a.length ≤ 4 ^ 6 := Nat.le_trans (Nat.pow_le_pow_left hd _) (Nat.pow_le_pow_right (by decide) f.keys.2)
  have h4 : 4 ^ 6 = 4096 := by decide
  unfold accF
  simp only [List.length_nil] at h1
  omega
theorem acc_lt {a : List (List Int)} (f : Pl a) {d : Nat} {p : Nat × List Int} (hp : p ∈ accF a d) : p.1 < 2 ^ 36 := by
  rw [(accF_ok a d).eq p hp]; exact blk_lt f _

theorem build85 (n : Int) (x : List Int) : buildB Try.prog (some (.struct #[{ name := "pairs", type := 80, offset := 0, embedded := true, tag := "", pkgPath := "turndown/locks", byteOffset := 0 }, { name := "colouring", type := 69, offset := 1, embedded := true, tag := "", pkgPath := "turndown/locks", byteOffset := 8 }])) (some (.agg [I 0, I 0, I 0, I 0, I 0, I 0, I 0])) [(0, I n), (1, .agg (eC x))] = some (.agg (I n :: eC x)) := by
  simp [buildB, isz80, isz69, fillA, setL, AV.cells, AV.isCell, eC_eq]

theorem f52_con {a : List (List Int)} (f : Pl a) {d : Nat} (hd : 1 ≤ d ∧ d ≤ 4) : Con Try.prog cfg 52 [LLI a, I d] (L eO (optF a d)) := by
  have hk := f.keys
  have hal := fun h : Hp => allocB_row (f := eC) (h := h) []
  refine Con_intro Try.func52 rfl ok52 (Nat.le_of_ble_eq_true rfl) rfl ?_
  simp only [Try.f52, Option.getD_some, initSt2]
  simp (disch := first | (simp only [go_sem, Bool.and_self, eq_self]; done) | omega | (simp only [List.length_cons, List.length_nil]; omega)) only [go_sem, ↓reduceIte, Nat.reduceEqDiff, Nat.reduceAdd, Nat.reduceMul, Nat.reduceSub, Int.reduceToNat, Nat.reduceBEq, List.size_toArray, List.length_cons, List.length_nil, Bool.false_and, Bool.true_and, Bool.or_false, Bool.false_or, Bool.and_false, Bool.and_true]
  generalize hH : (((((((((Hp.empty.alloc (.cells false false [LLI a])).alloc (.cells false false [I d])).alloc (.mp false [])).alloc (.cells false false [.nilmp])).put 3 (some (.cells false false [.mp 2]))).alloc (.cells false false [.nil])).alloc (.cells false false [I 0, I 0, I 0, I 0, I 0, I 0])).alloc (.cells false false [.nilfn])).put 6 (some (.cells false false [.fn 57 [.ptr 0 0, .ptr 5 0, .ptr 3 0, .ptr 4 0, .ptr 1 0, .ptr 6 0]]))) = H
  have inv0 : Inv a d H [] [0, 0, 0, 0, 0, 0] := by
    refine ⟨by rw [← hH]; simp (disch := first | (simp only [go_sem, Bool.and_self, eq_self]; done) | omega | (simp only [List.length_cons, List.length_nil]; omega)) only [go_sem, ↓reduceIte, Nat.reduceEqDiff, Nat.reduceAdd, Nat.reduceMul, Nat.reduceSub, Int.reduceToNat, Nat.reduceBEq, List.size_toArray, List.length_cons, List.length_nil, Bool.false_and, Bool.true_and, Bool.or_false, Bool.false_or, Bool.and_false, Bool.and_true, Nat.le_refl], ?_, ?_, ?_, ?_, ⟨.nil, ?_, .inl ⟨rfl, rfl⟩, fun _ _ _ _ h => by cases h⟩, ?_, ?_, rfl, ⟨by simp, by simp, by simp⟩⟩
    all_goals (rw [← hH]; first | (simp (disch := first | (simp only [go_sem, Bool.and_self, eq_self]; done) | omega | (simp only [List.length_cons, List.length_nil]; omega)) only [go_sem, ↓reduceIte, Nat.reduceEqDiff, Nat.reduceAdd, Nat.reduceMul, Nat.reduceSub, Int.reduceToNat, Nat.reduceBEq, List.size_toArray, List.length_cons, List.length_nil, Bool.false_and, Bool.true_and, Bool.or_false, Bool.false_or, Bool.and_false, Bool.and_true]; done) | (simp (disch := first | (simp only [go_sem, Bool.and_self, eq_self]; done) | omega | (simp only [List.length_cons, List.length_nil]; omega)) only [go_sem, ↓reduceIte, Nat.reduceEqDiff, Nat.reduceAdd, Nat.reduceMul, Nat.reduceSub, Int.reduceToNat, Nat.reduceBEq, List.size_toArray, List.length_cons, List.length_nil, Bool.false_and, Bool.true_and, Bool.or_false, Bool.false_or, Bool.and_false, Bool.and_true]; rfl))
  have hcap := lv_len d a.length [] 0
  have h3 : d ^ a.length ≤ 4 ^ 6 := Nat.le_trans (Nat.pow_le_pow_left hd.2 _) (Nat.pow_le_pow_right (by decide) hk.2)
  have h4 : 4 ^ 6 = 4096 := by decide
  obtain ⟨h2, xs2, hS, inv2, _, _⟩ := f57_shr f hd a.length 0 [] 0 [] [0, 0, 0, 0, 0, 0] H (by omega) rfl (fun i hi => by omega) (by omega) (fun i hi => by omega) (fun i hi => by
    rcases Nat.lt_or_ge i 6 with h | h
    · have : i = 0 ∨ i = 1 ∨ i = 2 ∨ i = 3 ∨ i = 4 ∨ i = 5 := by omega
      rcases this with rfl | rfl | rfl | rfl | rfl | rfl <;> rfl
    · simp [nth, List.getElem?_eq_none (show ([0, 0, 0, 0, 0, 0] : List Int).length ≤ i by simp; omega)]) inv0 (by rw [List.length_nil]; omega)
  have hS' : Shr Try.prog cfg 57 [I 0, I 0, .ptr 0 0, .ptr 5 0, .ptr 3 0, .ptr 4 0, .ptr 1 0, .ptr 6 0] H (.tup []) h2 := hS
  have hc := fun K => CallW_shr (K := K) 57 _ shr57 hS'
  obtain ⟨v, b4, how, hv⟩ := inv2.b4
  have hok := accF_ok a d
  have hacl := accF_len f hd.2
  have e : (lv d a.length [] 0).foldl (addC a) [] = accF a d := rfl
  rw [e] at inv2 how
  have hll : (lsOf (accF a d)).length = (accF a d).length := by simp [lsOf]
  have hlen := fun g lim => how.lenB 80 g lim
  rw [hll] at hlen
  simp (disch := first | (simp only [go_sem, Bool.and_self, eq_self]; done) | omega | (simp only [List.length_cons, List.length_nil]; omega)) only [go_sem, ↓reduceIte, Nat.reduceEqDiff, Nat.reduceAdd, Nat.reduceMul, Nat.reduceSub, Int.reduceToNat, Nat.reduceBEq, List.size_toArray, List.length_cons, List.length_nil, Bool.false_and, Bool.true_and, Bool.or_false, Bool.false_or, Bool.and_false, Bool.and_true, hc, b4, hlen]
  refine WP_for 20 (accF a d).length (fun i st h => st 5 = .ptr 3 0 ∧ st 6 = .ptr 4 0 ∧ st 18 = v ∧ st 19 = I (accF a d).length ∧ 7 ≤ h.nx ∧ h.bl 2 = some (.mp false (esOf (accF a d))) ∧ h.bl 3 = some (.cells false false [.mp 2]) ∧ h.bl 4 = some (.cells false false [v]) ∧ Own (e1 I) 1 h v (lsOf (accF a d)) ∧ ∃ w, st 9 = w ∧ (∀ id off n sz, w = .sl id off n sz → 7 ≤ id) ∧ Own eO 7 h w (((accF a d).take i).filter (keepB (accF a d))) ∧ Dis w v)
    (by simp (disch := first | (simp only [go_sem, Bool.and_self, eq_self]; done) | omega | (simp only [List.length_cons, List.length_nil]; omega)) only [go_sem, ↓reduceIte, Nat.reduceEqDiff, Nat.reduceAdd, Nat.reduceMul, Nat.reduceSub, Int.reduceToNat, Nat.reduceBEq, List.size_toArray, List.length_cons, List.length_nil, Bool.false_and, Bool.true_and, Bool.or_false, Bool.false_or, Bool.and_false, Bool.and_true]) ⟨by simp (disch := first | (simp only [go_sem, Bool.and_self, eq_self]; done) | omega | (simp only [List.length_cons, List.length_nil]; omega)) only [go_sem, ↓reduceIte, Nat.reduceEqDiff, Nat.reduceAdd, Nat.reduceMul, Nat.reduceSub, Int.reduceToNat, Nat.reduceBEq, List.size_toArray, List.length_cons, List.length_nil, Bool.false_and, Bool.true_and, Bool.or_false, Bool.false_or, Bool.and_false, Bool.and_true], by simp (disch := first | (simp only [go_sem, Bool.and_self, eq_self]; done) | omega | (simp only [List.length_cons, List.length_nil]; omega)) only [go_sem, ↓reduceIte, Nat.reduceEqDiff, Nat.reduceAdd, Nat.reduceMul, Nat.reduceSub, Int.reduceToNat, Nat.reduceBEq, List.size_toArray, List.length_cons, List.length_nil, Bool.false_and, Bool.true_and, Bool.or_false, Bool.false_or, Bool.and_false, Bool.and_true], by simp (disch := first | (simp only [go_sem, Bool.and_self, eq_self]; done) | omega | (simp only [List.length_cons, List.length_nil]; omega)) only [go_sem, ↓reduceIte, Nat.reduceEqDiff, Nat.reduceAdd, Nat.reduceMul, Nat.reduceSub, Int.reduceToNat, Nat.reduceBEq, List.size_toArray, List.length_cons, List.length_nil, Bool.false_and, Bool.true_and, Bool.or_false, Bool.false_or, Bool.and_false, Bool.and_true], by simp (disch := first | (simp only [go_sem, Bool.and_self, eq_self]; done) | omega | (simp only [List.length_cons, List.length_nil]; omega)) only [go_sem, ↓reduceIte, Nat.reduceEqDiff, Nat.reduceAdd, Nat.reduceMul, Nat.reduceSub, Int.reduceToNat, Nat.reduceBEq, List.size_toArray, List.length_cons, List.length_nil, Bool.false_and, Bool.true_and, Bool.or_false, Bool.false_or, Bool.and_false, Bool.and_true], inv2.nx, inv2.b2, inv2.b3, b4, how, .nil, by simp (disch := first | (simp only [go_sem, Bool.and_self, eq_self]; done) | omega | (simp only [List.length_cons, List.length_nil]; omega)) only [go_sem, ↓reduceIte, Nat.reduceEqDiff, Nat.reduceAdd, Nat.reduceMul, Nat.reduceSub, Int.reduceToNat, Nat.reduceBEq, List.size_toArray, List.length_cons, List.length_nil, Bool.false_and, Bool.true_and, Bool.or_false, Bool.false_or, Bool.and_false, Bool.and_true], (fun _ _ _ _ h => by cases h), .inl ⟨rfl, by simp⟩, Dis.nil_l _⟩ ?_
  rintro i st h hi s20 ⟨s5, s6, s18, s19, hnx, b2, b3, b4, how, w, s9, hw, how9, hdis⟩
  by_cases hlt : i < (accF a d).length
  case neg =>
    have hie : i = (accF a d).length := by omega
    subst hie
    rw [List.take_length] at how9
    simp (disch := first | (simp only [go_sem, Bool.and_self, eq_self]; done) | omega | (simp only [List.length_cons, List.length_nil]; omega)) only [go_sem, ↓reduceIte, Nat.reduceEqDiff, Nat.reduceAdd, Nat.reduceMul, Nat.reduceSub, Int.reduceToNat, Nat.reduceBEq, List.size_toArray, List.length_cons, List.length_nil, Bool.false_and, Bool.true_and, Bool.or_false, Bool.false_or, Bool.and_false, Bool.and_true, s5, s6, s18, s19, s20, s9, hlt]
    exact export_Own (f := eO) 78 how9
  obtain ⟨id, hve, hid, hbl⟩ := how.sl (by omega)
  rw [hll] at hve
  subst hve
  have hfl := flat_get I (lsOf (accF a d)) i (by omega)
  have hls : ∀ j, j < (accF a d).length → nth (lsOf (accF a d)) j = ((nth (accF a d) j).1 : Int) := by
    intro j hj
    simp [lsOf, nth, hj]
  rw [hls i hlt] at hfl
  have hmem := nth_mem hlt
  generalize hp : nth (accF a d) i = p at *
  have hp36 := acc_lt f hmem
  have hid7 : 7 ≤ id := hv _ _ _ _ rfl
  simp (disch := first | (simp only [go_sem, Bool.and_self, eq_self]; done) | omega | (simp only [List.length_cons, List.length_nil]; omega)) only [go_sem, ↓reduceIte, Nat.reduceEqDiff, Nat.reduceAdd, Nat.reduceMul, Nat.reduceSub, Int.reduceToNat, Nat.reduceBEq, List.size_toArray, List.length_cons, List.length_nil, Bool.false_and, Bool.true_and, Bool.or_false, Bool.false_or, Bool.and_false, Bool.and_true, s5, s6, s18, s19, s20, s9, hlt, hbl, hfl, b4]
  have htake : (accF a d).take (i + 1) = (accF a d).take i ++ [p] := by
    rw [List.take_add_one, nth_get hlt, hp]; rfl
  refine WP_cut (fun st g => g = h ∧ st 5 = .ptr 3 0 ∧ st 6 = .ptr 4 0 ∧ st 18 = .sl id 0 (accF a d).length 1 ∧ st 19 = I (accF a d).length ∧ st 20 = I i ∧ st 9 = w ∧ st 11 = I p.1 ∧ keepB (accF a d) p = true) ?_ ?_
  · refine WP_for 26 (accF a d).length (fun j st g => g = h ∧ st 5 = .ptr 3 0 ∧ st 6 = .ptr 4 0 ∧ st 18 = .sl id 0 (accF a d).length 1 ∧ st 19 = I (accF a d).length ∧ st 20 = I i ∧ st 9 = w ∧ st 11 = I p.1 ∧ st 24 = .sl id 0 (accF a d).length 1 ∧ st 25 = I (accF a d).length ∧ ∀ j', j' < j → ¬ (p.1 ≠ (nth (accF a d) j').1 ∧ Sub p.1 (nth (accF a d) j').1))
      (by simp (disch := first | (simp only [go_sem, Bool.and_self, eq_self]; done) | omega | (simp only [List.length_cons, List.length_nil]; omega)) only [go_sem, ↓reduceIte, Nat.reduceEqDiff, Nat.reduceAdd, Nat.reduceMul, Nat.reduceSub, Int.reduceToNat, Nat.reduceBEq, List.size_toArray, List.length_cons, List.length_nil, Bool.false_and, Bool.true_and, Bool.or_false, Bool.false_or, Bool.and_false, Bool.and_true]) ⟨rfl, by simp (disch := first | (simp only [go_sem, Bool.and_self, eq_self]; done) | omega | (simp only [List.length_cons, List.length_nil]; omega)) only [go_sem, ↓reduceIte, Nat.reduceEqDiff, Nat.reduceAdd, Nat.reduceMul, Nat.reduceSub, Int.reduceToNat, Nat.reduceBEq, List.size_toArray, List.length_cons, List.length_nil, Bool.false_and, Bool.true_and, Bool.or_false, Bool.false_or, Bool.and_false, Bool.and_true, s5, s6, s18, s19, s20, s9], by simp (disch := first | (simp only [go_sem, Bool.and_self, eq_self]; done) | omega | (simp only [List.length_cons, List.length_nil]; omega)) only [go_sem, ↓reduceIte, Nat.reduceEqDiff, Nat.reduceAdd, Nat.reduceMul, Nat.reduceSub, Int.reduceToNat, Nat.reduceBEq, List.size_toArray, List.length_cons, List.length_nil, Bool.false_and, Bool.true_and, Bool.or_false, Bool.false_or, Bool.and_false, Bool.and_true, s5, s6, s18, s19, s20, s9], by simp (disch := first | (simp only [go_sem, Bool.and_self, eq_self]; done) | omega | (simp only [List.length_cons, List.length_nil]; omega)) only [go_sem, ↓reduceIte, Nat.reduceEqDiff, Nat.reduceAdd, Nat.reduceMul, Nat.reduceSub, Int.reduceToNat, Nat.reduceBEq, List.size_toArray, List.length_cons, List.length_nil, Bool.false_and, Bool.true_and, Bool.or_false, Bool.false_or, Bool.and_false, Bool.and_true, s5, s6, s18, s19, s20, s9], by simp (disch := first | (simp only [go_sem, Bool.and_self, eq_self]; done) | omega | (simp only [List.length_cons, List.length_nil]; omega)) only [go_sem, ↓reduceIte, Nat.reduceEqDiff, Nat.reduceAdd, Nat.reduceMul, Nat.reduceSub, Int.reduceToNat, Nat.reduceBEq, List.size_toArray, List.length_cons, List.length_nil, Bool.false_and, Bool.true_and, Bool.or_false, Bool.false_or, Bool.and_false, Bool.and_true, s5, s6, s18, s19, s20, s9], by simp (disch := first | (simp only [go_sem, Bool.and_self, eq_self]; done) | omega | (simp only [List.length_cons, List.length_nil]; omega)) only [go_sem, ↓reduceIte, Nat.reduceEqDiff, Nat.reduceAdd, Nat.reduceMul, Nat.reduceSub, Int.reduceToNat, Nat.reduceBEq, List.size_toArray, List.length_cons, List.length_nil, Bool.false_and, Bool.true_and, Bool.or_false, Bool.false_or, Bool.and_false, Bool.and_true, s5, s6, s18, s19, s20, s9], by simp (disch := first | (simp only [go_sem, Bool.and_self, eq_self]; done) | omega | (simp only [List.length_cons, List.length_nil]; omega)) only [go_sem, ↓reduceIte, Nat.reduceEqDiff, Nat.reduceAdd, Nat.reduceMul, Nat.reduceSub, Int.reduceToNat, Nat.reduceBEq, List.size_toArray, List.length_cons, List.length_nil, Bool.false_and, Bool.true_and, Bool.or_false, Bool.false_or, Bool.and_false, Bool.and_true, s5, s6, s18, s19, s20, s9], by simp (disch := first | (simp only [go_sem, Bool.and_self, eq_self]; done) | omega | (simp only [List.length_cons, List.length_nil]; omega)) only [go_sem, ↓reduceIte, Nat.reduceEqDiff, Nat.reduceAdd, Nat.reduceMul, Nat.reduceSub, Int.reduceToNat, Nat.reduceBEq, List.size_toArray, List.length_cons, List.length_nil, Bool.false_and, Bool.true_and, Bool.or_false, Bool.false_or, Bool.and_false, Bool.and_true, s5, s6, s18, s19, s20, s9], by simp (disch := first | (simp only [go_sem, Bool.and_self, eq_self]; done) | omega | (simp only [List.length_cons, List.length_nil]; omega)) only [go_sem, ↓reduceIte, Nat.reduceEqDiff, Nat.reduceAdd, Nat.reduceMul, Nat.reduceSub, Int.reduceToNat, Nat.reduceBEq, List.size_toArray, List.length_cons, List.length_nil, Bool.false_and, Bool.true_and, Bool.or_false, Bool.false_or, Bool.and_false, Bool.and_true], by simp (disch := first | (simp only [go_sem, Bool.and_self, eq_self]; done) | omega | (simp only [List.length_cons, List.length_nil]; omega)) only [go_sem, ↓reduceIte, Nat.reduceEqDiff, Nat.reduceAdd, Nat.reduceMul, Nat.reduceSub, Int.reduceToNat, Nat.reduceBEq, List.size_toArray, List.length_cons, List.length_nil, Bool.false_and, Bool.true_and, Bool.or_false, Bool.false_or, Bool.and_false, Bool.and_true], by omega⟩ ?_
    rintro j st g hj s26 ⟨rfl, s5, s6, s18, s19, s20, s9, s11, s24, s25, hn⟩
    by_cases hja : j < (accF a d).length
    case neg =>
      have : keepB (accF a d) p = true := by
        simp only [keepB, Bool.not_eq_true', List.any_eq_false, Bool.and_eq_true, decide_eq_true_eq]
        intro q hq
        obtain ⟨j', hj', rfl⟩ := List.getElem_of_mem hq
        rw [← nth_getElem hj']
        exact hn j' (by omega)
      simp (disch := first | (simp only [go_sem, Bool.and_self, eq_self]; done) | omega | (simp only [List.length_cons, List.length_nil]; omega)) only [go_sem, ↓reduceIte, Nat.reduceEqDiff, Nat.reduceAdd, Nat.reduceMul, Nat.reduceSub, Int.reduceToNat, Nat.reduceBEq, List.size_toArray, List.length_cons, List.length_nil, Bool.false_and, Bool.true_and, Bool.or_false, Bool.false_or, Bool.and_false, Bool.and_true, s5, s6, s18, s19, s20, s9, s11, s24, s25, s26, hja]
      exact this
    have hflj := flat_get I (lsOf (accF a d)) j (by omega)
    rw [hls j hja] at hflj
    have hq36 := acc_lt f (nth_mem hja)
    have hmemj := nth_mem hja
    generalize hq : nth (accF a d) j = q at *
    have han := binA_andNot (P := Try.prog) 80 p.1 q.1 (by omega) (by omega)
    by_cases hne : p.1 = q.1
    · simp (disch := first | (simp only [go_sem, Bool.and_self, eq_self]; done) | omega | (simp only [List.length_cons, List.length_nil]; omega)) only [go_sem, ↓reduceIte, Nat.reduceEqDiff, Nat.reduceAdd, Nat.reduceMul, Nat.reduceSub, Int.reduceToNat, Nat.reduceBEq, List.size_toArray, List.length_cons, List.length_nil, Bool.false_and, Bool.true_and, Bool.or_false, Bool.false_or, Bool.and_false, Bool.and_true, s5, s6, s18, s19, s20, s9, s11, s24, s25, s26, hja, hbl, hflj, eq_true hne]
      rw [ForK_normal]
      refine ⟨hja, by simp (disch := first | (simp only [go_sem, Bool.and_self, eq_self]; done) | omega | (simp only [List.length_cons, List.length_nil]; omega)) only [go_sem, ↓reduceIte, Nat.reduceEqDiff, Nat.reduceAdd, Nat.reduceMul, Nat.reduceSub, Int.reduceToNat, Nat.reduceBEq, List.size_toArray, List.length_cons, List.length_nil, Bool.false_and, Bool.true_and, Bool.or_false, Bool.false_or, Bool.and_false, Bool.and_true, s26], rfl, by simp (disch := first | (simp only [go_sem, Bool.and_self, eq_self]; done) | omega | (simp only [List.length_cons, List.length_nil]; omega)) only [go_sem, ↓reduceIte, Nat.reduceEqDiff, Nat.reduceAdd, Nat.reduceMul, Nat.reduceSub, Int.reduceToNat, Nat.reduceBEq, List.size_toArray, List.length_cons, List.length_nil, Bool.false_and, Bool.true_and, Bool.or_false, Bool.false_or, Bool.and_false, Bool.and_true, s5], by simp (disch := first | (simp only [go_sem, Bool.and_self, eq_self]; done) | omega | (simp only [List.length_cons, List.length_nil]; omega)) only [go_sem, ↓reduceIte, Nat.reduceEqDiff, Nat.reduceAdd, Nat.reduceMul, Nat.reduceSub, Int.reduceToNat, Nat.reduceBEq, List.size_toArray, List.length_cons, List.length_nil, Bool.false_and, Bool.true_and, Bool.or_false, Bool.false_or, Bool.and_false, Bool.and_true, s6], by simp (disch := first | (simp only [go_sem, Bool.and_self, eq_self]; done) | omega | (simp only [List.length_cons, List.length_nil]; omega)) only [go_sem, ↓reduceIte, Nat.reduceEqDiff, Nat.reduceAdd, Nat.reduceMul, Nat.reduceSub, Int.reduceToNat, Nat.reduceBEq, List.size_toArray, List.length_cons, List.length_nil, Bool.false_and, Bool.true_and, Bool.or_false, Bool.false_or, Bool.and_false, Bool.and_true, s18], by simp (disch := first | (simp only [go_sem, Bool.and_self, eq_self]; done) | omega | (simp only [List.length_cons, List.length_nil]; omega)) only [go_sem, ↓reduceIte, Nat.reduceEqDiff, Nat.reduceAdd, Nat.reduceMul, Nat.reduceSub, Int.reduceToNat, Nat.reduceBEq, List.size_toArray, List.length_cons, List.length_nil, Bool.false_and, Bool.true_and, Bool.or_false, Bool.false_or, Bool.and_false, Bool.and_true, s19], by simp (disch := first | (simp only [go_sem, Bool.and_self, eq_self]; done) | omega | (simp only [List.length_cons, List.length_nil]; omega)) only [go_sem, ↓reduceIte, Nat.reduceEqDiff, Nat.reduceAdd, Nat.reduceMul, Nat.reduceSub, Int.reduceToNat, Nat.reduceBEq, List.size_toArray, List.length_cons, List.length_nil, Bool.false_and, Bool.true_and, Bool.or_false, Bool.false_or, Bool.and_false, Bool.and_true, s20], by simp (disch := first | (simp only [go_sem, Bool.and_self, eq_self]; done) | omega | (simp only [List.length_cons, List.length_nil]; omega)) only [go_sem, ↓reduceIte, Nat.reduceEqDiff, Nat.reduceAdd, Nat.reduceMul, Nat.reduceSub, Int.reduceToNat, Nat.reduceBEq, List.size_toArray, List.length_cons, List.length_nil, Bool.false_and, Bool.true_and, Bool.or_false, Bool.false_or, Bool.and_false, Bool.and_true, s9], by simp (disch := first | (simp only [go_sem, Bool.and_self, eq_self]; done) | omega | (simp only [List.length_cons, List.length_nil]; omega)) only [go_sem, ↓reduceIte, Nat.reduceEqDiff, Nat.reduceAdd, Nat.reduceMul, Nat.reduceSub, Int.reduceToNat, Nat.reduceBEq, List.size_toArray, List.length_cons, List.length_nil, Bool.false_and, Bool.true_and, Bool.or_false, Bool.false_or, Bool.and_false, Bool.and_true, s11], by simp (disch := first | (simp only [go_sem, Bool.and_self, eq_self]; done) | omega | (simp only [List.length_cons, List.length_nil]; omega)) only [go_sem, ↓reduceIte, Nat.reduceEqDiff, Nat.reduceAdd, Nat.reduceMul, Nat.reduceSub, Int.reduceToNat, Nat.reduceBEq, List.size_toArray, List.length_cons, List.length_nil, Bool.false_and, Bool.true_and, Bool.or_false, Bool.false_or, Bool.and_false, Bool.and_true, s24], by simp (disch := first | (simp only [go_sem, Bool.and_self, eq_self]; done) | omega | (simp only [List.length_cons, List.length_nil]; omega)) only [go_sem, ↓reduceIte, Nat.reduceEqDiff, Nat.reduceAdd, Nat.reduceMul, Nat.reduceSub, Int.reduceToNat, Nat.reduceBEq, List.size_toArray, List.length_cons, List.length_nil, Bool.false_and, Bool.true_and, Bool.or_false, Bool.false_or, Bool.and_false, Bool.and_true, s25], fun j' hj' => ?_⟩
      rcases Nat.lt_or_ge j' j with h1 | h1
      · exact hn j' h1
      · rw [show j' = j by omega, hq]; exact fun h => h.1 hne
    · by_cases hsub : Sub p.1 q.1
      · have hd0 := diffN_zero.2 hsub
        have hkb : keepB (accF a d) p = false := by
          simp only [keepB, Bool.not_eq_false', List.any_eq_true, Bool.and_eq_true, decide_eq_true_eq]
          exact ⟨q, hmemj, hne, hsub⟩
        simp (disch := first | (simp only [go_sem, Bool.and_self, eq_self]; done) | omega | (simp only [List.length_cons, List.length_nil]; omega)) only [go_sem, ↓reduceIte, Nat.reduceEqDiff, Nat.reduceAdd, Nat.reduceMul, Nat.reduceSub, Int.reduceToNat, Nat.reduceBEq, List.size_toArray, List.length_cons, List.length_nil, Bool.false_and, Bool.true_and, Bool.or_false, Bool.false_or, Bool.and_false, Bool.and_true, s5, s6, s18, s19, s20, s9, s11, s24, s25, s26, hja, hbl, hflj, hne, han, hd0, Int.natCast_zero]
        rw [ForK_normal]
        refine ⟨hlt, by simp (disch := first | (simp only [go_sem, Bool.and_self, eq_self]; done) | omega | (simp only [List.length_cons, List.length_nil]; omega)) only [go_sem, ↓reduceIte, Nat.reduceEqDiff, Nat.reduceAdd, Nat.reduceMul, Nat.reduceSub, Int.reduceToNat, Nat.reduceBEq, List.size_toArray, List.length_cons, List.length_nil, Bool.false_and, Bool.true_and, Bool.or_false, Bool.false_or, Bool.and_false, Bool.and_true, s20], by simp (disch := first | (simp only [go_sem, Bool.and_self, eq_self]; done) | omega | (simp only [List.length_cons, List.length_nil]; omega)) only [go_sem, ↓reduceIte, Nat.reduceEqDiff, Nat.reduceAdd, Nat.reduceMul, Nat.reduceSub, Int.reduceToNat, Nat.reduceBEq, List.size_toArray, List.length_cons, List.length_nil, Bool.false_and, Bool.true_and, Bool.or_false, Bool.false_or, Bool.and_false, Bool.and_true, s5], by simp (disch := first | (simp only [go_sem, Bool.and_self, eq_self]; done) | omega | (simp only [List.length_cons, List.length_nil]; omega)) only [go_sem, ↓reduceIte, Nat.reduceEqDiff, Nat.reduceAdd, Nat.reduceMul, Nat.reduceSub, Int.reduceToNat, Nat.reduceBEq, List.size_toArray, List.length_cons, List.length_nil, Bool.false_and, Bool.true_and, Bool.or_false, Bool.false_or, Bool.and_false, Bool.and_true, s6], by simp (disch := first | (simp only [go_sem, Bool.and_self, eq_self]; done) | omega | (simp only [List.length_cons, List.length_nil]; omega)) only [go_sem, ↓reduceIte, Nat.reduceEqDiff, Nat.reduceAdd, Nat.reduceMul, Nat.reduceSub, Int.reduceToNat, Nat.reduceBEq, List.size_toArray, List.length_cons, List.length_nil, Bool.false_and, Bool.true_and, Bool.or_false, Bool.false_or, Bool.and_false, Bool.and_true, s18], by simp (disch := first | (simp only [go_sem, Bool.and_self, eq_self]; done) | omega | (simp only [List.length_cons, List.length_nil]; omega)) only [go_sem, ↓reduceIte, Nat.reduceEqDiff, Nat.reduceAdd, Nat.reduceMul, Nat.reduceSub, Int.reduceToNat, Nat.reduceBEq, List.size_toArray, List.length_cons, List.length_nil, Bool.false_and, Bool.true_and, Bool.or_false, Bool.false_or, Bool.and_false, Bool.and_true, s19], hnx, b2, b3, b4, how, w, by simp (disch := first | (simp only [go_sem, Bool.and_self, eq_self]; done) | omega | (simp only [List.length_cons, List.length_nil]; omega)) only [go_sem, ↓reduceIte, Nat.reduceEqDiff, Nat.reduceAdd, Nat.reduceMul, Nat.reduceSub, Int.reduceToNat, Nat.reduceBEq, List.size_toArray, List.length_cons, List.length_nil, Bool.false_and, Bool.true_and, Bool.or_false, Bool.false_or, Bool.and_false, Bool.and_true, s9], hw, ?_, hdis⟩
        rw [htake, List.filter_append]
        simpa [hkb] using how9
      · have hd0 : ¬ diffN p.1 q.1 = 0 := fun h => hsub (diffN_zero.1 h)
        have hd1 : ¬ ((diffN p.1 q.1 : Nat) : Int) = 0 := by omega
        simp (disch := first | (simp only [go_sem, Bool.and_self, eq_self]; done) | omega | (simp only [List.length_cons, List.length_nil]; omega)) only [go_sem, ↓reduceIte, Nat.reduceEqDiff, Nat.reduceAdd, Nat.reduceMul, Nat.reduceSub, Int.reduceToNat, Nat.reduceBEq, List.size_toArray, List.length_cons, List.length_nil, Bool.false_and, Bool.true_and, Bool.or_false, Bool.false_or, Bool.and_false, Bool.and_true, s5, s6, s18, s19, s20, s9, s11, s24, s25, s26, hja, hbl, hflj, hne, han, hd1]
        rw [ForK_normal]
        refine ⟨hja, by simp (disch := first | (simp only [go_sem, Bool.and_self, eq_self]; done) | omega | (simp only [List.length_cons, List.length_nil]; omega)) only [go_sem, ↓reduceIte, Nat.reduceEqDiff, Nat.reduceAdd, Nat.reduceMul, Nat.reduceSub, Int.reduceToNat, Nat.reduceBEq, List.size_toArray, List.length_cons, List.length_nil, Bool.false_and, Bool.true_and, Bool.or_false, Bool.false_or, Bool.and_false, Bool.and_true, s26], rfl, by simp (disch := first | (simp only [go_sem, Bool.and_self, eq_self]; done) | omega | (simp only [List.length_cons, List.length_nil]; omega)) only [go_sem, ↓reduceIte, Nat.reduceEqDiff, Nat.reduceAdd, Nat.reduceMul, Nat.reduceSub, Int.reduceToNat, Nat.reduceBEq, List.size_toArray, List.length_cons, List.length_nil, Bool.false_and, Bool.true_and, Bool.or_false, Bool.false_or, Bool.and_false, Bool.and_true, s5], by simp (disch := first | (simp only [go_sem, Bool.and_self, eq_self]; done) | omega | (simp only [List.length_cons, List.length_nil]; omega)) only [go_sem, ↓reduceIte, Nat.reduceEqDiff, Nat.reduceAdd, Nat.reduceMul, Nat.reduceSub, Int.reduceToNat, Nat.reduceBEq, List.size_toArray, List.length_cons, List.length_nil, Bool.false_and, Bool.true_and, Bool.or_false, Bool.false_or, Bool.and_false, Bool.and_true, s6], by simp (disch := first | (simp only [go_sem, Bool.and_self, eq_self]; done) | omega | (simp only [List.length_cons, List.length_nil]; omega)) only [go_sem, ↓reduceIte, Nat.reduceEqDiff, Nat.reduceAdd, Nat.reduceMul, Nat.reduceSub, Int.reduceToNat, Nat.reduceBEq, List.size_toArray, List.length_cons, List.length_nil, Bool.false_and, Bool.true_and, Bool.or_false, Bool.false_or, Bool.and_false, Bool.and_true, s18], by simp (disch := first | (simp only [go_sem, Bool.and_self, eq_self]; done) | omega | (simp only [List.length_cons, List.length_nil]; omega)) only [go_sem, ↓reduceIte, Nat.reduceEqDiff, Nat.reduceAdd, Nat.reduceMul, Nat.reduceSub, Int.reduceToNat, Nat.reduceBEq, List.size_toArray, List.length_cons, List.length_nil, Bool.false_and, Bool.true_and, Bool.or_false, Bool.false_or, Bool.and_false, Bool.and_true, s19], by simp (disch := first | (simp only [go_sem, Bool.and_self, eq_self]; done) | omega | (simp only [List.length_cons, List.length_nil]; omega)) only [go_sem, ↓reduceIte, Nat.reduceEqDiff, Nat.reduceAdd, Nat.reduceMul, Nat.reduceSub, Int.reduceToNat, Nat.reduceBEq, List.size_toArray, List.length_cons, List.length_nil, Bool.false_and, Bool.true_and, Bool.or_false, Bool.false_or, Bool.and_false, Bool.and_true, s20], by simp (disch := first | (simp only [go_sem, Bool.and_self, eq_self]; done) | omega | (simp only [List.length_cons, List.length_nil]; omega)) only [go_sem, ↓reduceIte, Nat.reduceEqDiff, Nat.reduceAdd, Nat.reduceMul, Nat.reduceSub, Int.reduceToNat, Nat.reduceBEq, List.size_toArray, List.length_cons, List.length_nil, Bool.false_and, Bool.true_and, Bool.or_false, Bool.false_or, Bool.and_false, Bool.and_true, s9], by simp (disch := first | (simp only [go_sem, Bool.and_self, eq_self]; done) | omega | (simp only [List.length_cons, List.length_nil]; omega)) only [go_sem, ↓reduceIte, Nat.reduceEqDiff, Nat.reduceAdd, Nat.reduceMul, Nat.reduceSub, Int.reduceToNat, Nat.reduceBEq, List.size_toArray, List.length_cons, List.length_nil, Bool.false_and, Bool.true_and, Bool.or_false, Bool.false_or, Bool.and_false, Bool.and_true, s11], by simp (disch := first | (simp only [go_sem, Bool.and_self, eq_self]; done) | omega | (simp only [List.length_cons, List.length_nil]; omega)) only [go_sem, ↓reduceIte, Nat.reduceEqDiff, Nat.reduceAdd, Nat.reduceMul, Nat.reduceSub, Int.reduceToNat, Nat.reduceBEq, List.size_toArray, List.length_cons, List.length_nil, Bool.false_and, Bool.true_and, Bool.or_false, Bool.false_or, Bool.and_false, Bool.and_true, s24], by simp (disch := first | (simp only [go_sem, Bool.and_self, eq_self]; done) | omega | (simp only [List.length_cons, List.length_nil]; omega)) only [go_sem, ↓reduceIte, Nat.reduceEqDiff, Nat.reduceAdd, Nat.reduceMul, Nat.reduceSub, Int.reduceToNat, Nat.reduceBEq, List.size_toArray, List.length_cons, List.length_nil, Bool.false_and, Bool.true_and, Bool.or_false, Bool.false_or, Bool.and_false, Bool.and_true, s25], fun j' hj' => ?_⟩
        rcases Nat.lt_or_ge j' j with h1 | h1
        · exact hn j' h1
        · rw [show j' = j by omega, hq]; exact fun h => hsub h.2
  rintro st g ⟨rfl, s5, s6, s18, s19, s20, s9, s11, hkb⟩
  have hlk := lookB_one 80 69 .i64 zero6 2 false (esOf (accF a d)) (p.1 : Int) false rfl
  rw [findK_acc hok.pw hmem, Option.getD_some] at hlk
  have hb85 := build85 p.1 p.2
  have hbs := fun h : Hp => bsB_row (P := Try.prog) (h := h) (f := eO) 85 p (0, []) isz85 izero85 (by decide)
  have heo : eO p = I p.1 :: eC p.2 := rfl
  rw [heo] at hbs
  have hfl9 : (((accF a d).take i).filter (keepB (accF a d))).length ≤ 4096 := Nat.le_trans (List.length_filter_le _ _) (by rw [List.length_take]; omega)
  have happ := app_row (P := Try.prog) how9 85 56 (.agg [I 0, I 0, I 0, I 0, I 0, I 0, I 0]) p isz85 ibytes85 izero85 rfl (by omega) (by omega)
  simp (disch := first | (simp only [go_sem, Bool.and_self, eq_self]; done) | omega | (simp only [List.length_cons, List.length_nil]; omega)) only [go_sem, ↓reduceIte, Nat.reduceEqDiff, Nat.reduceAdd, Nat.reduceMul, Nat.reduceSub, Int.reduceToNat, Nat.reduceBEq, List.size_toArray, List.length_cons, List.length_nil, Bool.false_and, Bool.true_and, Bool.or_false, Bool.false_or, Bool.and_false, Bool.and_true, s5, s6, s18, s19, s20, s9, s11, b2, b3, hlk, hb85, hbs, happ]
  rw [ForK_normal]
  have keep : ∀ id', id' < 7 → ∀ flat, (appH g w flat).bl id' = g.bl id' := by
    intro id' hid' flat
    exact appH_bl _ _ _ _ (by omega) (fun id2 off n sz e => by have := hw _ _ _ _ e; omega)
  refine ⟨hlt, by simp (disch := first | (simp only [go_sem, Bool.and_self, eq_self]; done) | omega | (simp only [List.length_cons, List.length_nil]; omega)) only [go_sem, ↓reduceIte, Nat.reduceEqDiff, Nat.reduceAdd, Nat.reduceMul, Nat.reduceSub, Int.reduceToNat, Nat.reduceBEq, List.size_toArray, List.length_cons, List.length_nil, Bool.false_and, Bool.true_and, Bool.or_false, Bool.false_or, Bool.and_false, Bool.and_true, s20], by simp (disch := first | (simp only [go_sem, Bool.and_self, eq_self]; done) | omega | (simp only [List.length_cons, List.length_nil]; omega)) only [go_sem, ↓reduceIte, Nat.reduceEqDiff, Nat.reduceAdd, Nat.reduceMul, Nat.reduceSub, Int.reduceToNat, Nat.reduceBEq, List.size_toArray, List.length_cons, List.length_nil, Bool.false_and, Bool.true_and, Bool.or_false, Bool.false_or, Bool.and_false, Bool.and_true, s5], by simp (disch := first | (simp only [go_sem, Bool.and_self, eq_self]; done) | omega | (simp only [List.length_cons, List.length_nil]; omega)) only [go_sem, ↓reduceIte, Nat.reduceEqDiff, Nat.reduceAdd, Nat.reduceMul, Nat.reduceSub, Int.reduceToNat, Nat.reduceBEq, List.size_toArray, List.length_cons, List.length_nil, Bool.false_and, Bool.true_and, Bool.or_false, Bool.false_or, Bool.and_false, Bool.and_true, s6], by simp (disch := first | (simp only [go_sem, Bool.and_self, eq_self]; done) | omega | (simp only [List.length_cons, List.length_nil]; omega)) only [go_sem, ↓reduceIte, Nat.reduceEqDiff, Nat.reduceAdd, Nat.reduceMul, Nat.reduceSub, Int.reduceToNat, Nat.reduceBEq, List.size_toArray, List.length_cons, List.length_nil, Bool.false_and, Bool.true_and, Bool.or_false, Bool.false_or, Bool.and_false, Bool.and_true, s18], by simp (disch := first | (simp only [go_sem, Bool.and_self, eq_self]; done) | omega | (simp only [List.length_cons, List.length_nil]; omega)) only [go_sem, ↓reduceIte, Nat.reduceEqDiff, Nat.reduceAdd, Nat.reduceMul, Nat.reduceSub, Int.reduceToNat, Nat.reduceBEq, List.size_toArray, List.length_cons, List.length_nil, Bool.false_and, Bool.true_and, Bool.or_false, Bool.false_or, Bool.and_false, Bool.and_true, s19], by rw [appH_nx]; omega, by rw [keep 2 (by decide)]; exact b2, by rw [keep 3 (by decide)]; exact b3, by rw [keep 4 (by decide)]; exact b4, how.keep hdis _, _, by simp (disch := first | (simp only [go_sem, Bool.and_self, eq_self]; done) | omega | (simp only [List.length_cons, List.length_nil]; omega)) only [go_sem, ↓reduceIte, Nat.reduceEqDiff, Nat.reduceAdd, Nat.reduceMul, Nat.reduceSub, Int.reduceToNat, Nat.reduceBEq, List.size_toArray, List.length_cons, List.length_nil, Bool.false_and, Bool.true_and, Bool.or_false, Bool.false_or, Bool.and_false, Bool.and_true]; rfl, ?_, ?_, how.dis _ _⟩
  · intro id' off n sz e; unfold appV at e; cases e; omega
  · rw [htake, List.filter_append]
    simp only [List.filter_cons, hkb, if_true, List.filter_nil]
    exact Own.app _ _ _
theorem k52 {a : List (List Int)} (f : Pl a) {d : Nat} (hd : 1 ≤ d ∧ d ≤ 4) : ConW Try.prog cfg 52 h (some ([LLI a, I d], h')) K = K (L eO (optF a d)) h' := by
  rw [ConW_any (f52_con f hd) rfl]; rfl
end Go.Proofs.Ytkjdnnedncomgaa

set_option linter.unusedVariables false
set_option linter.unusedSimpArgs false
set_option maxRecDepth 10000
namespace Go.Proofs.Ytkjdnnedncomgaa
open Go Go.Am

variable {h h' : Hp} {K : AV → Hp → Prop}

/-- Chambers that keep apart what is needed. -/
def covF (l : List (Nat × List Int)) : Nat → Nat → Option (List (List Int))
  | 0, need => if need = 0 then some [] else none
  | c + 1, need => if need = 0 then some [] else l.findSome? fun x => if x.1 &&& lowN need = 0 then none else (covF l c (diffN need x.1)).map fun r => r ++ [x.2]
theorem covF_len {l : List (Nat × List Int)} : ∀ {c need r}, covF l c need = some r → r.length ≤ c := by
  intro c
  induction c with
  | zero =>
    intro need r h
    rw [covF] at h
    split at h
    · cases h; simp
    · cases h
  | succ c ih =>
    intro need r h
    rw [covF] at h
    split at h
    · cases h; simp
    · obtain ⟨x, _, hx⟩ := List.exists_of_findSome?_eq_some h
      split at hx
      · cases hx
      · obtain ⟨r', h1, rfl⟩ := Option.map_eq_some_iff.1 hx
        have := ih h1
        simp; omega

def covR (o : Option (List (List Int))) : AV := .tup [.fresh 6 ((o.getD []).flatMap eC), .bool o.isSome]
abbrev zero7 : List AV := [I 0, I 0, I 0, I 0, I 0, I 0, I 0]
theorem ld69 (n : Int) (x : List Int) : loadC (some (.array 6 3)) (some 6) (some (I n :: eC x, 1)) = some (.agg (eC x)) := by
  simp [loadC, loadB, aggD, eC_eq]

theorem f51_con {l : List (Nat × List Int)} (hl : l.length ≤ 4096) (hp : ∀ p ∈ l, p.1 < 2 ^ 36) : ∀ (c need : Nat), c ≤ 4 → need < 2 ^ 36 → Con Try.prog cfg 51 [L eO l, I need, I c] (covR (covF l c need)) := by
  intro c
  induction c with
  | zero =>
    intro need _ hn
    have hexT := fun h : Hp => export_pair_fresh (P := Try.prog) (h := h) (f := eC) false 65 4 69 und65 isz69 (v := .nil) (w := .bool true) (xs := []) (.inl ⟨rfl, rfl⟩) rfl (by simp)
    have hexF := fun h : Hp => export_pair_fresh (P := Try.prog) (h := h) (f := eC) false 65 4 69 und65 isz69 (v := .nil) (w := .bool false) (xs := []) (.inl ⟨rfl, rfl⟩) rfl (by simp)
    refine Con_intro Try.func51 rfl ok51 (Nat.le_of_ble_eq_true rfl) rfl ?_
    simp only [Try.f51, Option.getD_some, initSt3]
    by_cases h0 : need = 0
    · subst h0
      simp (disch := first | (simp only [go_sem, Bool.and_self, eq_self]; done) | omega | (simp only [List.length_cons, List.length_nil]; omega)) only [go_sem, ↓reduceIte, Nat.reduceEqDiff, Nat.reduceAdd, Nat.reduceMul, Nat.reduceSub, Int.reduceToNat, Nat.reduceBEq, List.size_toArray, List.length_cons, List.length_nil, Bool.false_and, Bool.true_and, Bool.or_false, Bool.false_or, Bool.and_false, Bool.and_true, hexT, Int.natCast_zero]
      rfl
    · have h0' : ¬ (need : Int) = 0 := by omega
      have e : covF l 0 need = none := by rw [covF, if_neg h0]
      simp (disch := first | (simp only [go_sem, Bool.and_self, eq_self]; done) | omega | (simp only [List.length_cons, List.length_nil]; omega)) only [go_sem, ↓reduceIte, Nat.reduceEqDiff, Nat.reduceAdd, Nat.reduceMul, Nat.reduceSub, Int.reduceToNat, Nat.reduceBEq, List.size_toArray, List.length_cons, List.length_nil, Bool.false_and, Bool.true_and, Bool.or_false, Bool.false_or, Bool.and_false, Bool.and_true, hexF, h0', Int.natCast_zero, e]
      rfl
  | succ c ih =>
    intro need hc hn
    have hexT := fun h : Hp => export_pair_fresh (P := Try.prog) (h := h) (f := eC) false 65 4 69 und65 isz69 (v := .nil) (w := .bool true) (xs := []) (.inl ⟨rfl, rfl⟩) rfl (by simp)
    have hexF := fun h : Hp => export_pair_fresh (P := Try.prog) (h := h) (f := eC) false 65 4 69 und65 isz69 (v := .nil) (w := .bool false) (xs := []) (.inl ⟨rfl, rfl⟩) rfl (by simp)
    refine Con_intro Try.func51 rfl ok51 (Nat.le_of_ble_eq_true rfl) rfl ?_
    simp only [Try.f51, Option.getD_some, initSt3]
    by_cases h0 : need = 0
    · subst h0
      have e : covF l (c + 1) 0 = some [] := by rw [covF, if_pos rfl]
      simp (disch := first | (simp only [go_sem, Bool.and_self, eq_self]; done) | omega | (simp only [List.length_cons, List.length_nil]; omega)) only [go_sem, ↓reduceIte, Nat.reduceEqDiff, Nat.reduceAdd, Nat.reduceMul, Nat.reduceSub, Int.reduceToNat, Nat.reduceBEq, List.size_toArray, List.length_cons, List.length_nil, Bool.false_and, Bool.true_and, Bool.or_false, Bool.false_or, Bool.and_false, Bool.and_true, hexT, Int.natCast_zero, e]
      rfl
    have h0' : ¬ (need : Int) = 0 := by omega
    have hc0 : ¬ ((c + 1 : Nat) : Int) = 0 := by omega
    have hneg : IntKind.i64.wrap (0 - (need : Int)) = -(need : Int) := by rw [wrap_ok _ (by omega) (by omega)]; omega
    have hlow := low_ok (P := Try.prog) 80 need (by omega)
    simp (disch := first | (simp only [go_sem, Bool.and_self, eq_self]; done) | omega | (simp only [List.length_cons, List.length_nil]; omega)) only [go_sem, ↓reduceIte, Nat.reduceEqDiff, Nat.reduceAdd, Nat.reduceMul, Nat.reduceSub, Int.reduceToNat, Nat.reduceBEq, List.size_toArray, List.length_cons, List.length_nil, Bool.false_and, Bool.true_and, Bool.or_false, Bool.false_or, Bool.and_false, Bool.and_true, h0', hc0, hneg, hlow]
    let g : Nat × List Int → Option (List (List Int)) := fun x => if x.1 &&& lowN need = 0 then none else (covF l c (diffN need x.1)).map fun r => r ++ [x.2]
    have hcov : covF l (c + 1) need = l.findSome? g := by rw [covF, if_neg h0]
    refine WP_for 23 l.length (fun i st h => st 0 = L eO l ∧ st 1 = I need ∧ st 2 = I ((c + 1 : Nat) : Int) ∧ st 8 = I (lowN need) ∧ st 21 = L eO l ∧ st 22 = I l.length ∧ ∀ j, j < i → g (nth l j) = none) (by simp (disch := first | (simp only [go_sem, Bool.and_self, eq_self]; done) | omega | (simp only [List.length_cons, List.length_nil]; omega)) only [go_sem, ↓reduceIte, Nat.reduceEqDiff, Nat.reduceAdd, Nat.reduceMul, Nat.reduceSub, Int.reduceToNat, Nat.reduceBEq, List.size_toArray, List.length_cons, List.length_nil, Bool.false_and, Bool.true_and, Bool.or_false, Bool.false_or, Bool.and_false, Bool.and_true]) ⟨by simp (disch := first | (simp only [go_sem, Bool.and_self, eq_self]; done) | omega | (simp only [List.length_cons, List.length_nil]; omega)) only [go_sem, ↓reduceIte, Nat.reduceEqDiff, Nat.reduceAdd, Nat.reduceMul, Nat.reduceSub, Int.reduceToNat, Nat.reduceBEq, List.size_toArray, List.length_cons, List.length_nil, Bool.false_and, Bool.true_and, Bool.or_false, Bool.false_or, Bool.and_false, Bool.and_true], by simp (disch := first | (simp only [go_sem, Bool.and_self, eq_self]; done) | omega | (simp only [List.length_cons, List.length_nil]; omega)) only [go_sem, ↓reduceIte, Nat.reduceEqDiff, Nat.reduceAdd, Nat.reduceMul, Nat.reduceSub, Int.reduceToNat, Nat.reduceBEq, List.size_toArray, List.length_cons, List.length_nil, Bool.false_and, Bool.true_and, Bool.or_false, Bool.false_or, Bool.and_false, Bool.and_true], by simp (disch := first | (simp only [go_sem, Bool.and_self, eq_self]; done) | omega | (simp only [List.length_cons, List.length_nil]; omega)) only [go_sem, ↓reduceIte, Nat.reduceEqDiff, Nat.reduceAdd, Nat.reduceMul, Nat.reduceSub, Int.reduceToNat, Nat.reduceBEq, List.size_toArray, List.length_cons, List.length_nil, Bool.false_and, Bool.true_and, Bool.or_false, Bool.false_or, Bool.and_false, Bool.and_true], by simp (disch := first | (simp only [go_sem, Bool.and_self, eq_self]; done) | omega | (simp only [List.length_cons, List.length_nil]; omega)) only [go_sem, ↓reduceIte, Nat.reduceEqDiff, Nat.reduceAdd, Nat.reduceMul, Nat.reduceSub, Int.reduceToNat, Nat.reduceBEq, List.size_toArray, List.length_cons, List.length_nil, Bool.false_and, Bool.true_and, Bool.or_false, Bool.false_or, Bool.and_false, Bool.and_true], by simp (disch := first | (simp only [go_sem, Bool.and_self, eq_self]; done) | omega | (simp only [List.length_cons, List.length_nil]; omega)) only [go_sem, ↓reduceIte, Nat.reduceEqDiff, Nat.reduceAdd, Nat.reduceMul, Nat.reduceSub, Int.reduceToNat, Nat.reduceBEq, List.size_toArray, List.length_cons, List.length_nil, Bool.false_and, Bool.true_and, Bool.or_false, Bool.false_or, Bool.and_false, Bool.and_true], by simp (disch := first | (simp only [go_sem, Bool.and_self, eq_self]; done) | omega | (simp only [List.length_cons, List.length_nil]; omega)) only [go_sem, ↓reduceIte, Nat.reduceEqDiff, Nat.reduceAdd, Nat.reduceMul, Nat.reduceSub, Int.reduceToNat, Nat.reduceBEq, List.size_toArray, List.length_cons, List.length_nil, Bool.false_and, Bool.true_and, Bool.or_false, Bool.false_or, Bool.and_false, Bool.and_true], by omega⟩ ?_
    rintro i st h hi s23 ⟨s0, s1, s2, s8, s21, s22, hnone⟩
    by_cases hlt : i < l.length
    case neg =>
      have e : covF l (c + 1) need = none := by rw [hcov]; exact findSome_none fun j hj => hnone j (by omega)
      simp (disch := first | (simp only [go_sem, Bool.and_self, eq_self]; done) | omega | (simp only [List.length_cons, List.length_nil]; omega)) only [go_sem, ↓reduceIte, Nat.reduceEqDiff, Nat.reduceAdd, Nat.reduceMul, Nat.reduceSub, Int.reduceToNat, Nat.reduceBEq, List.size_toArray, List.length_cons, List.length_nil, Bool.false_and, Bool.true_and, Bool.or_false, Bool.false_or, Bool.and_false, Bool.and_true, s0, s1, s2, s8, s21, s22, s23, hlt, hexF, e]
      rfl
    have hp36 := hp _ (nth_mem hlt)
    have hst2 : ∀ (h : Hp) (id : Nat), storeC h id 0 7 (some (.cells false false zero7)) (eO (nth l i)) = some (.skp, h.put id (some (.cells false false (eO (nth l i))))) := fun h id => storeC_row id false zero7 (nth l i) rfl
    have hld := loadC_row (f := eO) (.struct #[{ name := "pairs", type := 80, offset := 0, embedded := true, tag := "", pkgPath := "turndown/locks", byteOffset := 0 }, { name := "colouring", type := 69, offset := 1, embedded := true, tag := "", pkgPath := "turndown/locks", byteOffset := 8 }]) rfl (nth l i)
    generalize hx : nth l i = x at *
    have hg0 : (eO x)[0]? = some (I x.1) := rfl
    have heo : eO x = I x.1 :: eC x.2 := rfl
    have hl69 := ld69 x.1 x.2
    rw [← heo] at hl69
    have hand := binA_and (P := Try.prog) 80 x.1 (lowN need) (by omega) (by have := lowN_lt (n := need) (by omega); omega)
    by_cases hz : x.1 &&& lowN need = 0
    · have hz' : ((x.1 &&& lowN need : Nat) : Int) = 0 := by omega
      simp (disch := first | (simp only [go_sem, Bool.and_self, eq_self]; done) | omega | (simp only [List.length_cons, List.length_nil]; omega)) only [go_sem, ↓reduceIte, Nat.reduceEqDiff, Nat.reduceAdd, Nat.reduceMul, Nat.reduceSub, Int.reduceToNat, Nat.reduceBEq, List.size_toArray, List.length_cons, List.length_nil, Bool.false_and, Bool.true_and, Bool.or_false, Bool.false_or, Bool.and_false, Bool.and_true, s0, s1, s2, s8, s21, s22, s23, hlt, hx, hld, hst2, hg0, hand, hz, Int.natCast_zero]
      rw [ForK_normal]
      refine ⟨hlt, by simp (disch := first | (simp only [go_sem, Bool.and_self, eq_self]; done) | omega | (simp only [List.length_cons, List.length_nil]; omega)) only [go_sem, ↓reduceIte, Nat.reduceEqDiff, Nat.reduceAdd, Nat.reduceMul, Nat.reduceSub, Int.reduceToNat, Nat.reduceBEq, List.size_toArray, List.length_cons, List.length_nil, Bool.false_and, Bool.true_and, Bool.or_false, Bool.false_or, Bool.and_false, Bool.and_true, s23], by simp (disch := first | (simp only [go_sem, Bool.and_self, eq_self]; done) | omega | (simp only [List.length_cons, List.length_nil]; omega)) only [go_sem, ↓reduceIte, Nat.reduceEqDiff, Nat.reduceAdd, Nat.reduceMul, Nat.reduceSub, Int.reduceToNat, Nat.reduceBEq, List.size_toArray, List.length_cons, List.length_nil, Bool.false_and, Bool.true_and, Bool.or_false, Bool.false_or, Bool.and_false, Bool.and_true, s0], by simp (disch := first | (simp only [go_sem, Bool.and_self, eq_self]; done) | omega | (simp only [List.length_cons, List.length_nil]; omega)) only [go_sem, ↓reduceIte, Nat.reduceEqDiff, Nat.reduceAdd, Nat.reduceMul, Nat.reduceSub, Int.reduceToNat, Nat.reduceBEq, List.size_toArray, List.length_cons, List.length_nil, Bool.false_and, Bool.true_and, Bool.or_false, Bool.false_or, Bool.and_false, Bool.and_true, s1], by simp (disch := first | (simp only [go_sem, Bool.and_self, eq_self]; done) | omega | (simp only [List.length_cons, List.length_nil]; omega)) only [go_sem, ↓reduceIte, Nat.reduceEqDiff, Nat.reduceAdd, Nat.reduceMul, Nat.reduceSub, Int.reduceToNat, Nat.reduceBEq, List.size_toArray, List.length_cons, List.length_nil, Bool.false_and, Bool.true_and, Bool.or_false, Bool.false_or, Bool.and_false, Bool.and_true, s2], by simp (disch := first | (simp only [go_sem, Bool.and_self, eq_self]; done) | omega | (simp only [List.length_cons, List.length_nil]; omega)) only [go_sem, ↓reduceIte, Nat.reduceEqDiff, Nat.reduceAdd, Nat.reduceMul, Nat.reduceSub, Int.reduceToNat, Nat.reduceBEq, List.size_toArray, List.length_cons, List.length_nil, Bool.false_and, Bool.true_and, Bool.or_false, Bool.false_or, Bool.and_false, Bool.and_true, s8], by simp (disch := first | (simp only [go_sem, Bool.and_self, eq_self]; done) | omega | (simp only [List.length_cons, List.length_nil]; omega)) only [go_sem, ↓reduceIte, Nat.reduceEqDiff, Nat.reduceAdd, Nat.reduceMul, Nat.reduceSub, Int.reduceToNat, Nat.reduceBEq, List.size_toArray, List.length_cons, List.length_nil, Bool.false_and, Bool.true_and, Bool.or_false, Bool.false_or, Bool.and_false, Bool.and_true, s21], by simp (disch := first | (simp only [go_sem, Bool.and_self, eq_self]; done) | omega | (simp only [List.length_cons, List.length_nil]; omega)) only [go_sem, ↓reduceIte, Nat.reduceEqDiff, Nat.reduceAdd, Nat.reduceMul, Nat.reduceSub, Int.reduceToNat, Nat.reduceBEq, List.size_toArray, List.length_cons, List.length_nil, Bool.false_and, Bool.true_and, Bool.or_false, Bool.false_or, Bool.and_false, Bool.and_true, s22], fun j hj => ?_⟩
      rcases Nat.lt_or_ge j i with h1 | h1
      · exact hnone j h1
      · rw [show j = i by omega, hx]; exact if_pos hz
    · have hz' : ¬ ((x.1 &&& lowN need : Nat) : Int) = 0 := by omega
      have han := binA_andNot (P := Try.prog) 80 need x.1 (by omega) (by omega)
      have hdl : diffN need x.1 < 2 ^ 36 := diffN_lt hn
      have kk : ∀ h h' K, ConW Try.prog cfg 51 h (some ([L eO l, I (diffN need x.1), I c], h')) K = K (importR h' (covR (covF l c (diffN need x.1)))).1 (importR h' (covR (covF l c (diffN need x.1)))).2 := fun h h' K => ConW_any (ih _ (by omega) hdl) rfl
      have e1' : ((c + 1 : Nat) : Int) - 1 = (c : Int) := by omega
      cases hr : covF l c (diffN need x.1) with
      | none =>
        have e2 : ∀ h' : Hp, importR h' (covR none) = (.tup [.sl h'.nx 0 0 6, .bool false], h'.alloc (.cells false true [])) := fun _ => rfl
        simp (disch := first | (simp only [go_sem, Bool.and_self, eq_self]; done) | omega | (simp only [List.length_cons, List.length_nil]; omega)) only [go_sem, ↓reduceIte, Nat.reduceEqDiff, Nat.reduceAdd, Nat.reduceMul, Nat.reduceSub, Int.reduceToNat, Nat.reduceBEq, List.size_toArray, List.length_cons, List.length_nil, Bool.false_and, Bool.true_and, Bool.or_false, Bool.false_or, Bool.and_false, Bool.and_true, s0, s1, s2, s8, s21, s22, s23, hlt, hx, hld, hst2, hg0, hand, hz', han, e1', kk, hr, e2]
        rw [ForK_normal]
        refine ⟨hlt, by simp (disch := first | (simp only [go_sem, Bool.and_self, eq_self]; done) | omega | (simp only [List.length_cons, List.length_nil]; omega)) only [go_sem, ↓reduceIte, Nat.reduceEqDiff, Nat.reduceAdd, Nat.reduceMul, Nat.reduceSub, Int.reduceToNat, Nat.reduceBEq, List.size_toArray, List.length_cons, List.length_nil, Bool.false_and, Bool.true_and, Bool.or_false, Bool.false_or, Bool.and_false, Bool.and_true, s23], by simp (disch := first | (simp only [go_sem, Bool.and_self, eq_self]; done) | omega | (simp only [List.length_cons, List.length_nil]; omega)) only [go_sem, ↓reduceIte, Nat.reduceEqDiff, Nat.reduceAdd, Nat.reduceMul, Nat.reduceSub, Int.reduceToNat, Nat.reduceBEq, List.size_toArray, List.length_cons, List.length_nil, Bool.false_and, Bool.true_and, Bool.or_false, Bool.false_or, Bool.and_false, Bool.and_true, s0], by simp (disch := first | (simp only [go_sem, Bool.and_self, eq_self]; done) | omega | (simp only [List.length_cons, List.length_nil]; omega)) only [go_sem, ↓reduceIte, Nat.reduceEqDiff, Nat.reduceAdd, Nat.reduceMul, Nat.reduceSub, Int.reduceToNat, Nat.reduceBEq, List.size_toArray, List.length_cons, List.length_nil, Bool.false_and, Bool.true_and, Bool.or_false, Bool.false_or, Bool.and_false, Bool.and_true, s1], by simp (disch := first | (simp only [go_sem, Bool.and_self, eq_self]; done) | omega | (simp only [List.length_cons, List.length_nil]; omega)) only [go_sem, ↓reduceIte, Nat.reduceEqDiff, Nat.reduceAdd, Nat.reduceMul, Nat.reduceSub, Int.reduceToNat, Nat.reduceBEq, List.size_toArray, List.length_cons, List.length_nil, Bool.false_and, Bool.true_and, Bool.or_false, Bool.false_or, Bool.and_false, Bool.and_true, s2], by simp (disch := first | (simp only [go_sem, Bool.and_self, eq_self]; done) | omega | (simp only [List.length_cons, List.length_nil]; omega)) only [go_sem, ↓reduceIte, Nat.reduceEqDiff, Nat.reduceAdd, Nat.reduceMul, Nat.reduceSub, Int.reduceToNat, Nat.reduceBEq, List.size_toArray, List.length_cons, List.length_nil, Bool.false_and, Bool.true_and, Bool.or_false, Bool.false_or, Bool.and_false, Bool.and_true, s8], by simp (disch := first | (simp only [go_sem, Bool.and_self, eq_self]; done) | omega | (simp only [List.length_cons, List.length_nil]; omega)) only [go_sem, ↓reduceIte, Nat.reduceEqDiff, Nat.reduceAdd, Nat.reduceMul, Nat.reduceSub, Int.reduceToNat, Nat.reduceBEq, List.size_toArray, List.length_cons, List.length_nil, Bool.false_and, Bool.true_and, Bool.or_false, Bool.false_or, Bool.and_false, Bool.and_true, s21], by simp (disch := first | (simp only [go_sem, Bool.and_self, eq_self]; done) | omega | (simp only [List.length_cons, List.length_nil]; omega)) only [go_sem, ↓reduceIte, Nat.reduceEqDiff, Nat.reduceAdd, Nat.reduceMul, Nat.reduceSub, Int.reduceToNat, Nat.reduceBEq, List.size_toArray, List.length_cons, List.length_nil, Bool.false_and, Bool.true_and, Bool.or_false, Bool.false_or, Bool.and_false, Bool.and_true, s22], fun j hj => ?_⟩
        rcases Nat.lt_or_ge j i with h1 | h1
        · exact hnone j h1
        · rw [show j = i by omega, hx]
          show (if _ then _ else _) = _
          rw [if_neg hz, hr]; rfl
      | some rest =>
        have hrl := covF_len hr
        have e2 : ∀ h' : Hp, importR h' (covR (some rest)) = (.tup [.sl h'.nx 0 rest.length 6, .bool true], h'.alloc (.cells false true (rest.flatMap eC))) := by
          intro h'
          have : (rest.flatMap eC).length / 6 = rest.length := fresh_len (f := eC) rest
          show (AV.tup [.sl h'.nx 0 ((rest.flatMap eC).length / 6) 6, .bool true], h'.alloc (.cells false true (rest.flatMap eC))) = _
          rw [this]
        have hbs := fun h : Hp => bsB_row (P := Try.prog) (h := h) (f := eC) 69 x.2 [] isz69 izero69 (by decide)
        have hfin : covF l (c + 1) need = some (rest ++ [x.2]) := by
          rw [hcov]
          refine findSome_at g l i _ hlt (fun j hj => hnone j hj) ?_
          rw [hx]
          show (if _ then _ else _) = _
          rw [if_neg hz, hr]; rfl
        generalize hG : (h.alloc (.cells false false zero7)).put h.nx (some (.cells false false (eO x))) = G
        have hG1 : G.bl h.nx = some (.cells false false (eO x)) := by rw [← hG]; simp (disch := first | (simp only [go_sem, Bool.and_self, eq_self]; done) | omega | (simp only [List.length_cons, List.length_nil]; omega)) only [go_sem, ↓reduceIte, Nat.reduceEqDiff, Nat.reduceAdd, Nat.reduceMul, Nat.reduceSub, Int.reduceToNat, Nat.reduceBEq, List.size_toArray, List.length_cons, List.length_nil, Bool.false_and, Bool.true_and, Bool.or_false, Bool.false_or, Bool.and_false, Bool.and_true]
        have hG2 : G.nx = h.nx + 1 := by rw [← hG]; simp (disch := first | (simp only [go_sem, Bool.and_self, eq_self]; done) | omega | (simp only [List.length_cons, List.length_nil]; omega)) only [go_sem, ↓reduceIte, Nat.reduceEqDiff, Nat.reduceAdd, Nat.reduceMul, Nat.reduceSub, Int.reduceToNat, Nat.reduceBEq, List.size_toArray, List.length_cons, List.length_nil, Bool.false_and, Bool.true_and, Bool.or_false, Bool.false_or, Bool.and_false, Bool.and_true]
        have o1 : Own eC 6 (G.alloc (.cells false true (rest.flatMap eC))) (.sl G.nx 0 rest.length 6) rest := .inr ⟨G.nx, rfl, by rw [alloc_nx]; omega, by rw [alloc_bl, if_pos rfl]⟩
        have happ := app_row (P := Try.prog) o1 69 48 zero6 x.2 isz69 ibytes69 izero69 rfl (by omega) (by omega)
        have o2 := Own.app (f := eC) (sz := 6) (G.alloc (.cells false true (rest.flatMap eC))) (.sl G.nx 0 rest.length 6) (rest ++ [x.2])
        have hex2 := export_pair_fresh (P := Try.prog) (f := eC) false 65 4 69 und65 isz69 o2 (w := .bool true) rfl (by simp)
        have n1 : ¬ h.nx = G.nx := by omega
        simp (disch := first | (simp only [go_sem, Bool.and_self, eq_self]; done) | omega | (simp only [List.length_cons, List.length_nil]; omega)) only [go_sem, ↓reduceIte, Nat.reduceEqDiff, Nat.reduceAdd, Nat.reduceMul, Nat.reduceSub, Int.reduceToNat, Nat.reduceBEq, List.size_toArray, List.length_cons, List.length_nil, Bool.false_and, Bool.true_and, Bool.or_false, Bool.false_or, Bool.and_false, Bool.and_true, s0, s1, s2, s8, s21, s22, s23, hlt, hx, hld, hst2, hG, hG1, hg0, hand, hz', han, e1', kk, hr, e2, n1, hl69, hbs, happ, hex2, hfin]
        rfl
theorem k51 {l : List (Nat × List Int)} (hl : l.length ≤ 4096) (hp : ∀ p ∈ l, p.1 < 2 ^ 36) {c need : Nat} (hc : c ≤ 4) (hn : need < 2 ^ 36) : ConW Try.prog cfg 51 h (some ([L eO l, I need, I c], h')) K =
    K (.tup [.sl h'.nx 0 ((covF l c need).getD []).length 6, .bool (covF l c need).isSome]) (h'.alloc (.cells false true (((covF l c need).getD []).flatMap eC))) := by
  rw [ConW_any (f51_con hl hp c need hc hn) rfl]
  have : ((((covF l c need).getD []).flatMap eC)).length / 6 = ((covF l c need).getD []).length := fresh_len (f := eC) _
  have e : importR h' (covR (covF l c need)) = (.tup [.sl h'.nx 0 ((((covF l c need).getD []).flatMap eC).length / 6) 6, .bool (covF l c need).isSome], h'.alloc (.cells false true (((covF l c need).getD []).flatMap eC))) := rfl
  rw [e, this]
end Go.Proofs.Ytkjdnnedncomgaa
