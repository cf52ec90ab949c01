/-
  The program's small checks: within, isPlan, areCuts.
-/
import Derived.Test.YtkjdnnedncomgaaL5A
set_option linter.unusedVariables false
set_option linter.unusedSimpArgs false
set_option maxRecDepth 10000
namespace Go.Proofs.Ytkjdnnedncomgaa
open Go Go.Am

variable {h h' : Hp} {K : AV → Hp → Prop}

theorem k12 (x n : Int) (hx : ok64 x) (h0 : 0 < n) (h1 : n ≤ 9223372036854775807) : ConW Try.prog cfg 12 h (some ([I x, I n], h')) K = K (I ((x % 18446744073709551616) % n)) h := ConW_num (f12_con x n hx h0 h1) rfl
theorem k16 (xs ys : List Int) (hx : xs.length ≤ 9223372036854775807) : ConW Try.prog cfg 16 h (some ([LI xs, LI ys], h')) K = K (.bool (decide (xs = ys))) h := ConW_num (f16_con xs ys hx) rfl

theorem f34_con (n lo hi : Int) : Con Try.prog cfg 34 [I n, I lo, I hi] (.bool (decide (lo ≤ n ∧ n ≤ hi))) := by
  refine Con_intro Try.func34 rfl ok34 (Nat.le_of_ble_eq_true rfl) rfl ?_
  simp only [Try.f34, Option.getD_some, initSt3]
  by_cases h1 : lo ≤ n
  · by_cases h2 : n ≤ hi
    · simp (disch := first | (simp only [go_sem, Bool.and_self, eq_self]; done) | omega | (simp only [List.length_cons, List.length_nil]; omega)) only [go_sem, ↓reduceIte, Nat.reduceEqDiff, Nat.reduceAdd, Nat.reduceMul, Nat.reduceSub, Int.reduceToNat, h1, h2, decide_eq_true (And.intro h1 h2)]
    · simp (disch := first | (simp only [go_sem, Bool.and_self, eq_self]; done) | omega | (simp only [List.length_cons, List.length_nil]; omega)) only [go_sem, ↓reduceIte, Nat.reduceEqDiff, Nat.reduceAdd, Nat.reduceMul, Nat.reduceSub, Int.reduceToNat, h1, h2, decide_eq_false (fun h : lo ≤ n ∧ n ≤ hi => h2 h.2)]
  · simp (disch := first | (simp only [go_sem, Bool.and_self, eq_self]; done) | omega | (simp only [List.length_cons, List.length_nil]; omega)) only [go_sem, ↓reduceIte, Nat.reduceEqDiff, Nat.reduceAdd, Nat.reduceMul, Nat.reduceSub, Int.reduceToNat, h1, decide_eq_false (fun h : lo ≤ n ∧ n ≤ hi => h1 h.1)]
@[go_sem] theorem k34 (n lo hi : Int) : ConW Try.prog cfg 34 h (some ([I n, I lo, I hi], h')) K = K (.bool (decide (lo ≤ n ∧ n ≤ hi))) h := ConW_num (f34_con n lo hi) rfl

theorem f49_con (x : Int) : Con Try.prog cfg 49 [I x] (.bool (!decide (0 ≤ x ∧ x ≤ 1))) := by
  refine Con_intro Try.func49 rfl ok49 (Nat.le_of_ble_eq_true rfl) rfl ?_
  simp only [Try.f49, Option.getD_some, initSt1]
  simp (disch := first | (simp only [go_sem, Bool.and_self, eq_self]; done) | omega | (simp only [List.length_cons, List.length_nil]; omega)) only [go_sem, ↓reduceIte, Nat.reduceEqDiff, Nat.reduceAdd, Nat.reduceMul, Nat.reduceSub, Int.reduceToNat]
theorem f50_con (x d : Int) : Con Try.prog cfg 50 [I x, .pp [I d]] (.bool (!decide (1 ≤ x ∧ x ≤ d))) := by
  refine Con_intro Try.func50 rfl ok50 (Nat.le_of_ble_eq_true rfl) rfl ?_
  simp only [Try.f50, Option.getD_some, initSt2]
  simp (disch := first | (simp only [go_sem, Bool.and_self, eq_self]; done) | omega | (simp only [List.length_cons, List.length_nil]; omega)) only [go_sem, ↓reduceIte, Nat.reduceEqDiff, Nat.reduceAdd, Nat.reduceMul, Nat.reduceSub, Int.reduceToNat]

/-- The first place where a test answers yes, or -1. -/
def findI (p : Int → Bool) (xs : List Int) : Int := match xs.findIdx? p with | some i => i | none => -1
theorem f56_con (xs : List Int) (hx : xs.length ≤ 9223372036854775807) (g : FuncId) (caps : List AV) (p : Int → Bool) (hs : cfg.shared g = false) (hc : ∀ h : Hp, sealArgs h caps = some (caps, h))
    (hp : AV.pureL caps = true) (hg : ∀ x, Con Try.prog cfg g (I x :: caps) (.bool (p x))) : Con Try.prog cfg 56 [LI xs, .fn g caps] (I (findI p xs)) := by
  refine Con_intro Try.func56 rfl ok56 (Nat.le_of_ble_eq_true rfl) rfl ?_
  simp only [Try.f56, Option.getD_some, initSt2]
  have kg : ∀ x h h' K, ConW Try.prog cfg g h (some (I x :: caps, h')) K = K (.bool (p x)) h := fun x h h' K => ConW_num (hg x) rfl
  simp (disch := first | (simp only [go_sem, Bool.and_self, eq_self]; done) | omega | (simp only [List.length_cons, List.length_nil]; omega)) only [go_sem, ↓reduceIte, Nat.reduceEqDiff, Nat.reduceAdd, Nat.reduceMul, Nat.reduceSub, Int.reduceToNat]
  refine WP_for 8 xs.length (fun i st h => st 0 = LI xs ∧ st 1 = .fn g caps ∧ st 7 = I xs.length ∧ ∀ j, j < i → p (nth xs j) = false) (by simp (disch := first | (simp only [go_sem, Bool.and_self, eq_self]; done) | omega | (simp only [List.length_cons, List.length_nil]; omega)) only [go_sem, ↓reduceIte, Nat.reduceEqDiff, Nat.reduceAdd, Nat.reduceMul, Nat.reduceSub, Int.reduceToNat]) ⟨by simp (disch := first | (simp only [go_sem, Bool.and_self, eq_self]; done) | omega | (simp only [List.length_cons, List.length_nil]; omega)) only [go_sem, ↓reduceIte, Nat.reduceEqDiff, Nat.reduceAdd, Nat.reduceMul, Nat.reduceSub, Int.reduceToNat], by simp (disch := first | (simp only [go_sem, Bool.and_self, eq_self]; done) | omega | (simp only [List.length_cons, List.length_nil]; omega)) only [go_sem, ↓reduceIte, Nat.reduceEqDiff, Nat.reduceAdd, Nat.reduceMul, Nat.reduceSub, Int.reduceToNat], by simp (disch := first | (simp only [go_sem, Bool.and_self, eq_self]; done) | omega | (simp only [List.length_cons, List.length_nil]; omega)) only [go_sem, ↓reduceIte, Nat.reduceEqDiff, Nat.reduceAdd, Nat.reduceMul, Nat.reduceSub, Int.reduceToNat], by omega⟩ ?_
  rintro i st h hi s8 ⟨s0, s1, s7, hn⟩
  by_cases hlt : i < xs.length
  case neg =>
    have : findI p xs = -1 := by
      have : xs.findIdx? p = none := by
        rw [List.findIdx?_eq_none_iff]
        intro x hx'
        obtain ⟨j, hj, rfl⟩ := List.getElem_of_mem hx'
        rw [← nth_getElem hj]
        exact hn j (by omega)
      simp [findI, this]
    simp (disch := first | (simp only [go_sem, Bool.and_self, eq_self]; done) | omega | (simp only [List.length_cons, List.length_nil]; omega)) only [go_sem, ↓reduceIte, Nat.reduceEqDiff, Nat.reduceAdd, Nat.reduceMul, Nat.reduceSub, Int.reduceToNat, s8, s0, s1, s7, hlt, this]
  cases hpx : p (nth xs i) with
  | true =>
    have : findI p xs = i := by
      have : xs.findIdx? p = some i := by
        rw [List.findIdx?_eq_some_iff_getElem]
        refine ⟨hlt, by rw [← nth_getElem hlt]; exact hpx, fun j hj => ?_⟩
        rw [← nth_getElem (by omega)]
        simp [hn j hj]
      simp [findI, this]
    simp (disch := first | (simp only [go_sem, Bool.and_self, eq_self]; done) | omega | (simp only [List.length_cons, List.length_nil]; omega)) only [go_sem, ↓reduceIte, Nat.reduceEqDiff, Nat.reduceAdd, Nat.reduceMul, Nat.reduceSub, Int.reduceToNat, s8, s0, s1, s7, hlt, hs, hc, kg, hpx, this]
  | false =>
    simp (disch := first | (simp only [go_sem, Bool.and_self, eq_self]; done) | omega | (simp only [List.length_cons, List.length_nil]; omega)) only [go_sem, ↓reduceIte, Nat.reduceEqDiff, Nat.reduceAdd, Nat.reduceMul, Nat.reduceSub, Int.reduceToNat, s8, s0, s1, s7, hlt, hs, hc, kg, hpx]
    rw [ForK_normal]
    refine ⟨hlt, by simp (disch := first | (simp only [go_sem, Bool.and_self, eq_self]; done) | omega | (simp only [List.length_cons, List.length_nil]; omega)) only [go_sem, ↓reduceIte, Nat.reduceEqDiff, Nat.reduceAdd, Nat.reduceMul, Nat.reduceSub, Int.reduceToNat, s8], by simp (disch := first | (simp only [go_sem, Bool.and_self, eq_self]; done) | omega | (simp only [List.length_cons, List.length_nil]; omega)) only [go_sem, ↓reduceIte, Nat.reduceEqDiff, Nat.reduceAdd, Nat.reduceMul, Nat.reduceSub, Int.reduceToNat, s0], by simp (disch := first | (simp only [go_sem, Bool.and_self, eq_self]; done) | omega | (simp only [List.length_cons, List.length_nil]; omega)) only [go_sem, ↓reduceIte, Nat.reduceEqDiff, Nat.reduceAdd, Nat.reduceMul, Nat.reduceSub, Int.reduceToNat, s1], by simp (disch := first | (simp only [go_sem, Bool.and_self, eq_self]; done) | omega | (simp only [List.length_cons, List.length_nil]; omega)) only [go_sem, ↓reduceIte, Nat.reduceEqDiff, Nat.reduceAdd, Nat.reduceMul, Nat.reduceSub, Int.reduceToNat, s7], fun j hj => ?_⟩
    rcases Nat.lt_or_ge j i with hj' | hj'
    · exact hn j hj'
    · rwa [show j = i by omega]

theorem findI_nonneg (p : Int → Bool) (xs : List Int) : decide (0 ≤ findI p xs) = xs.any p := by
  unfold findI
  cases hf : xs.findIdx? p with
  | none =>
    rw [List.findIdx?_eq_none_iff] at hf
    have : xs.any p = false := by
      rw [List.any_eq_false]
      intro x hx
      simp [hf x hx]
    rw [this]
    decide
  | some i =>
    rw [List.findIdx?_eq_some_iff_getElem] at hf
    obtain ⟨hi, hpi, _⟩ := hf
    have : xs.any p = true := List.any_eq_true.2 ⟨_, List.getElem_mem hi, hpi⟩
    rw [this]
    simp
theorem f48_con (xs : List Int) (hx : xs.length ≤ 9223372036854775807) (g : FuncId) (caps : List AV) (p : Int → Bool) (hs : cfg.shared g = false) (hc : ∀ h : Hp, sealArgs h caps = some (caps, h))
    (hp : AV.pureL caps = true) (hg : ∀ x, Con Try.prog cfg g (I x :: caps) (.bool (p x))) : Con Try.prog cfg 48 [LI xs, .fn g caps] (.bool (xs.any p)) := by
  refine Con_intro Try.func48 rfl ok48 (Nat.le_of_ble_eq_true rfl) rfl ?_
  simp only [Try.f48, Option.getD_some, initSt2]
  have kg : ∀ h h' K, ConW Try.prog cfg 56 h (some ([LI xs, .fn g caps], h')) K = K (I (findI p xs)) h := fun h h' K => ConW_num (f56_con xs hx g caps p hs hc hp hg) rfl
  simp (disch := first | (simp only [go_sem, Bool.and_self, eq_self]; done) | omega | (simp only [List.length_cons, List.length_nil]; omega)) only [go_sem, ↓reduceIte, Nat.reduceEqDiff, Nat.reduceAdd, Nat.reduceMul, Nat.reduceSub, Int.reduceToNat, sealA_fn g caps hp, kg, findI_nonneg]

/-- An access plan. -/
def isPlanB (a : List (List Int)) : Bool := decide (1 ≤ a.length ∧ a.length ≤ 6) && decide (1 ≤ (nth a 0).length ∧ (nth a 0).length ≤ 6) && a.all fun r => decide (r.length = (nth a 0).length) && r.all fun x => decide (0 ≤ x ∧ x ≤ 1)

def okLL (a : List (List Int)) : Prop := a.length ≤ 9223372036854775807 ∧ ∀ r ∈ a, r.length ≤ 9223372036854775807
theorem okLL.row {a : List (List Int)} (h : okLL a) {i : Nat} (hi : i < a.length) : (nth a i).length ≤ 9223372036854775807 := h.2 _ (nth_mem hi)

theorem not_all_of {α : Type} [Inhabited α] {p : α → Bool} {xs : List α} {i : Nat} (hi : i < xs.length) (h : p (nth xs i) = false) : xs.all p = false := by
  rw [List.all_eq_false]
  exact ⟨_, nth_mem hi, by simp [h]⟩
theorem all_of_nth {α : Type} [Inhabited α] {p : α → Bool} {xs : List α} (h : ∀ j, j < xs.length → p (nth xs j) = true) : xs.all p = true := by
  rw [List.all_eq_true]
  intro x hx
  obtain ⟨j, hj, rfl⟩ := List.getElem_of_mem hx
  rw [← nth_getElem hj]
  exact h j hj
theorem any_not {p : Int → Bool} (xs : List Int) : xs.any (fun x => !p x) = !xs.all p := by
  induction xs with
  | nil => rfl
  | cons x xs ih => simp [ih]

theorem f32_con (a : List (List Int)) (ha : okLL a) : Con Try.prog cfg 32 [LLI a] (.bool (isPlanB a)) := by
  refine Con_intro Try.func32 rfl ok32 (Nat.le_of_ble_eq_true rfl) rfl ?_
  simp only [Try.f32, Option.getD_some, initSt1]
  by_cases h1 : 1 ≤ a.length ∧ a.length ≤ 6
  case neg =>
    have q1 : decide ((1 : Int) ≤ a.length ∧ (a.length : Int) ≤ 6) = false := decide_eq_false (by omega)
    have q2 : isPlanB a = false := by simp [isPlanB, h1]
    simp (disch := first | (simp only [go_sem, Bool.and_self, eq_self]; done) | omega | (simp only [List.length_cons, List.length_nil]; omega)) only [go_sem, ↓reduceIte, Nat.reduceEqDiff, Nat.reduceAdd, Nat.reduceMul, Nat.reduceSub, Int.reduceToNat, q1, q2]
  have q1 : decide ((1 : Int) ≤ a.length ∧ (a.length : Int) ≤ 6) = true := decide_eq_true (by omega)
  by_cases h2 : 1 ≤ (nth a 0).length ∧ (nth a 0).length ≤ 6
  case neg =>
    have q2 : decide ((1 : Int) ≤ (nth a 0).length ∧ ((nth a 0).length : Int) ≤ 6) = false := decide_eq_false (by omega)
    have e3 : isPlanB a = false := by simp [isPlanB, h2]
    simp (disch := first | (simp only [go_sem, Bool.and_self, eq_self]; done) | omega | (simp only [List.length_cons, List.length_nil]; omega)) only [go_sem, ↓reduceIte, Nat.reduceEqDiff, Nat.reduceAdd, Nat.reduceMul, Nat.reduceSub, Int.reduceToNat, q1, q2, e3]
  have q2 : decide ((1 : Int) ≤ (nth a 0).length ∧ ((nth a 0).length : Int) ≤ 6) = true := decide_eq_true (by omega)
  simp (disch := first | (simp only [go_sem, Bool.and_self, eq_self]; done) | omega | (simp only [List.length_cons, List.length_nil]; omega)) only [go_sem, ↓reduceIte, Nat.reduceEqDiff, Nat.reduceAdd, Nat.reduceMul, Nat.reduceSub, Int.reduceToNat, q1, q2]
  refine WP_for 19 a.length (fun i st h => st 0 = LLI a ∧ st 17 = LLI a ∧ st 18 = I a.length ∧ ∀ j, j < i → (decide ((nth a j).length = (nth a 0).length) && (nth a j).all fun x => decide (0 ≤ x ∧ x ≤ 1)) = true) (by simp (disch := first | (simp only [go_sem, Bool.and_self, eq_self]; done) | omega | (simp only [List.length_cons, List.length_nil]; omega)) only [go_sem, ↓reduceIte, Nat.reduceEqDiff, Nat.reduceAdd, Nat.reduceMul, Nat.reduceSub, Int.reduceToNat]) ⟨by simp (disch := first | (simp only [go_sem, Bool.and_self, eq_self]; done) | omega | (simp only [List.length_cons, List.length_nil]; omega)) only [go_sem, ↓reduceIte, Nat.reduceEqDiff, Nat.reduceAdd, Nat.reduceMul, Nat.reduceSub, Int.reduceToNat], by simp (disch := first | (simp only [go_sem, Bool.and_self, eq_self]; done) | omega | (simp only [List.length_cons, List.length_nil]; omega)) only [go_sem, ↓reduceIte, Nat.reduceEqDiff, Nat.reduceAdd, Nat.reduceMul, Nat.reduceSub, Int.reduceToNat], by simp (disch := first | (simp only [go_sem, Bool.and_self, eq_self]; done) | omega | (simp only [List.length_cons, List.length_nil]; omega)) only [go_sem, ↓reduceIte, Nat.reduceEqDiff, Nat.reduceAdd, Nat.reduceMul, Nat.reduceSub, Int.reduceToNat], by omega⟩ ?_
  rintro i st h hi s19 ⟨s0, s17, s18, hn⟩
  by_cases hlt : i < a.length
  case neg =>
    have : isPlanB a = true := by
      simp only [isPlanB, Bool.and_eq_true, decide_eq_true_eq]
      exact ⟨⟨h1, h2⟩, all_of_nth fun j hj => hn j (by omega)⟩
    simp (disch := first | (simp only [go_sem, Bool.and_self, eq_self]; done) | omega | (simp only [List.length_cons, List.length_nil]; omega)) only [go_sem, ↓reduceIte, Nat.reduceEqDiff, Nat.reduceAdd, Nat.reduceMul, Nat.reduceSub, Int.reduceToNat, s19, s0, s17, s18, hlt, this]
  have k48 : ∀ h h' K, ConW Try.prog cfg 48 h (some ([LI (nth a i), .fn 49 []], h')) K = K (.bool ((nth a i).any fun x => !decide (0 ≤ x ∧ x ≤ 1))) h :=
    fun h h' K => ConW_num (f48_con (nth a i) (ha.row hlt) 49 [] _ rfl (fun _ => rfl) rfl f49_con) rfl
  by_cases h3 : (nth a i).length = (nth a 0).length
  case neg =>
    have : isPlanB a = false := by
      have := not_all_of (p := fun r => decide (r.length = (nth a 0).length) && r.all fun x => decide (0 ≤ x ∧ x ≤ 1)) hlt (by simp [h3])
      simp only [isPlanB, this, Bool.and_false]
    simp (disch := first | (simp only [go_sem, Bool.and_self, eq_self]; done) | omega | (simp only [List.length_cons, List.length_nil]; omega)) only [go_sem, ↓reduceIte, Nat.reduceEqDiff, Nat.reduceAdd, Nat.reduceMul, Nat.reduceSub, Int.reduceToNat, s19, s0, s17, s18, hlt, h3, this]
  cases h4 : (nth a i).all fun x => decide (0 ≤ x ∧ x ≤ 1) with
  | false =>
    have : isPlanB a = false := by
      have := not_all_of (p := fun r => decide (r.length = (nth a 0).length) && r.all fun x => decide (0 ≤ x ∧ x ≤ 1)) hlt (by simp only [h4, Bool.and_false])
      simp only [isPlanB, this, Bool.and_false]
    simp (disch := first | (simp only [go_sem, Bool.and_self, eq_self]; done) | omega | (simp only [List.length_cons, List.length_nil]; omega)) only [go_sem, ↓reduceIte, Nat.reduceEqDiff, Nat.reduceAdd, Nat.reduceMul, Nat.reduceSub, Int.reduceToNat, s19, s0, s17, s18, hlt, h3, this, sealA_fn 49 [] rfl, k48, any_not, h4]
  | true =>
    simp (disch := first | (simp only [go_sem, Bool.and_self, eq_self]; done) | omega | (simp only [List.length_cons, List.length_nil]; omega)) only [go_sem, ↓reduceIte, Nat.reduceEqDiff, Nat.reduceAdd, Nat.reduceMul, Nat.reduceSub, Int.reduceToNat, s19, s0, s17, s18, hlt, h3, sealA_fn 49 [] rfl, k48, any_not, h4]
    rw [ForK_normal]
    refine ⟨hlt, by simp (disch := first | (simp only [go_sem, Bool.and_self, eq_self]; done) | omega | (simp only [List.length_cons, List.length_nil]; omega)) only [go_sem, ↓reduceIte, Nat.reduceEqDiff, Nat.reduceAdd, Nat.reduceMul, Nat.reduceSub, Int.reduceToNat, s19], by simp (disch := first | (simp only [go_sem, Bool.and_self, eq_self]; done) | omega | (simp only [List.length_cons, List.length_nil]; omega)) only [go_sem, ↓reduceIte, Nat.reduceEqDiff, Nat.reduceAdd, Nat.reduceMul, Nat.reduceSub, Int.reduceToNat, s0], by simp (disch := first | (simp only [go_sem, Bool.and_self, eq_self]; done) | omega | (simp only [List.length_cons, List.length_nil]; omega)) only [go_sem, ↓reduceIte, Nat.reduceEqDiff, Nat.reduceAdd, Nat.reduceMul, Nat.reduceSub, Int.reduceToNat, s17], by simp (disch := first | (simp only [go_sem, Bool.and_self, eq_self]; done) | omega | (simp only [List.length_cons, List.length_nil]; omega)) only [go_sem, ↓reduceIte, Nat.reduceEqDiff, Nat.reduceAdd, Nat.reduceMul, Nat.reduceSub, Int.reduceToNat, s18], fun j hj => ?_⟩
    rcases Nat.lt_or_ge j i with hj' | hj'
    · exact hn j hj'
    · rw [show j = i by omega, h3, h4]; simp
theorem k32 (a : List (List Int)) (ha : okLL a) : ConW Try.prog cfg 32 h (some ([LLI a], h')) K = K (.bool (isPlanB a)) h := ConW_num (f32_con a ha) rfl

/-- Cuts for some keys, with some depths. -/
def areCutsB (cuts : List (List Int)) (keys d : Int) : Bool := decide (1 ≤ d ∧ d ≤ 4) && decide ((cuts.length : Int) = keys) && decide (1 ≤ (nth cuts 0).length ∧ (nth cuts 0).length ≤ 4) && cuts.all fun r => decide (r.length = (nth cuts 0).length) && r.all fun x => decide (1 ≤ x ∧ x ≤ d)

theorem f33_con (a : List (List Int)) (ha : okLL a) (keys d : Int) (hk : 0 < keys) : Con Try.prog cfg 33 [LLI a, I keys, I d] (.bool (areCutsB a keys d)) := by
  refine Con_intro Try.func33 rfl ok33 (Nat.le_of_ble_eq_true rfl) rfl ?_
  simp only [Try.f33, Option.getD_some, initSt3]
  by_cases h0 : 1 ≤ d ∧ d ≤ 4
  case neg =>
    have q2 : areCutsB a keys d = false := by simp [areCutsB, h0]
    simp (disch := first | (simp only [go_sem, Bool.and_self, eq_self]; done) | omega | (simp only [List.length_cons, List.length_nil]; omega)) only [go_sem, ↓reduceIte, Nat.reduceEqDiff, Nat.reduceAdd, Nat.reduceMul, Nat.reduceSub, Int.reduceToNat, decide_eq_false h0, q2]
  have q0 := decide_eq_true h0
  by_cases h1 : (a.length : Int) = keys
  case neg =>
    have q2 : areCutsB a keys d = false := by simp [areCutsB, h1]
    simp (disch := first | (simp only [go_sem, Bool.and_self, eq_self]; done) | omega | (simp only [List.length_cons, List.length_nil]; omega)) only [go_sem, ↓reduceIte, Nat.reduceEqDiff, Nat.reduceAdd, Nat.reduceMul, Nat.reduceSub, Int.reduceToNat, q0, h1, q2]
  by_cases h2 : 1 ≤ (nth a 0).length ∧ (nth a 0).length ≤ 4
  case neg =>
    have q2 : decide ((1 : Int) ≤ (nth a 0).length ∧ ((nth a 0).length : Int) ≤ 4) = false := decide_eq_false (by omega)
    have q3 : areCutsB a keys d = false := by simp [areCutsB, h2]
    simp (disch := first | (simp only [go_sem, Bool.and_self, eq_self]; done) | omega | (simp only [List.length_cons, List.length_nil]; omega)) only [go_sem, ↓reduceIte, Nat.reduceEqDiff, Nat.reduceAdd, Nat.reduceMul, Nat.reduceSub, Int.reduceToNat, q0, h1, q2, q3]
  have q2 : decide ((1 : Int) ≤ (nth a 0).length ∧ ((nth a 0).length : Int) ≤ 4) = true := decide_eq_true (by omega)
  simp (disch := first | (simp only [go_sem, Bool.and_self, eq_self]; done) | omega | (simp only [List.length_cons, List.length_nil]; omega)) only [go_sem, ↓reduceIte, Nat.reduceEqDiff, Nat.reduceAdd, Nat.reduceMul, Nat.reduceSub, Int.reduceToNat, q0, h1, q2]
  have hal : 0 < a.length := by omega
  have hlen := ha.1
  refine WP_for 28 a.length (fun i st h => st 0 = LLI a ∧ st 26 = LLI a ∧ st 27 = I a.length ∧ st 5 = .ptr 0 0 ∧ h.nx = 1 ∧ (∃ fz, h.bl 0 = some (.cells fz false [I d])) ∧ ∀ j, j < i → (decide ((nth a j).length = (nth a 0).length) && (nth a j).all fun x => decide (1 ≤ x ∧ x ≤ d)) = true)
    (by simp (disch := first | (simp only [go_sem, Bool.and_self, eq_self]; done) | omega | (simp only [List.length_cons, List.length_nil]; omega)) only [go_sem, ↓reduceIte, Nat.reduceEqDiff, Nat.reduceAdd, Nat.reduceMul, Nat.reduceSub, Int.reduceToNat]) ⟨by simp (disch := first | (simp only [go_sem, Bool.and_self, eq_self]; done) | omega | (simp only [List.length_cons, List.length_nil]; omega)) only [go_sem, ↓reduceIte, Nat.reduceEqDiff, Nat.reduceAdd, Nat.reduceMul, Nat.reduceSub, Int.reduceToNat], by simp (disch := first | (simp only [go_sem, Bool.and_self, eq_self]; done) | omega | (simp only [List.length_cons, List.length_nil]; omega)) only [go_sem, ↓reduceIte, Nat.reduceEqDiff, Nat.reduceAdd, Nat.reduceMul, Nat.reduceSub, Int.reduceToNat], by simp (disch := first | (simp only [go_sem, Bool.and_self, eq_self]; done) | omega | (simp only [List.length_cons, List.length_nil]; omega)) only [go_sem, ↓reduceIte, Nat.reduceEqDiff, Nat.reduceAdd, Nat.reduceMul, Nat.reduceSub, Int.reduceToNat, h1], by simp (disch := first | (simp only [go_sem, Bool.and_self, eq_self]; done) | omega | (simp only [List.length_cons, List.length_nil]; omega)) only [go_sem, ↓reduceIte, Nat.reduceEqDiff, Nat.reduceAdd, Nat.reduceMul, Nat.reduceSub, Int.reduceToNat], by simp (disch := first | (simp only [go_sem, Bool.and_self, eq_self]; done) | omega | (simp only [List.length_cons, List.length_nil]; omega)) only [go_sem, ↓reduceIte, Nat.reduceEqDiff, Nat.reduceAdd, Nat.reduceMul, Nat.reduceSub, Int.reduceToNat], ⟨false, by simp (disch := first | (simp only [go_sem, Bool.and_self, eq_self]; done) | omega | (simp only [List.length_cons, List.length_nil]; omega)) only [go_sem, ↓reduceIte, Nat.reduceEqDiff, Nat.reduceAdd, Nat.reduceMul, Nat.reduceSub, Int.reduceToNat]⟩, by omega⟩ ?_
  rintro i st h hi s28 ⟨s0, s26, s27, s5, hnx, ⟨fz, hbl⟩, hn⟩
  by_cases hlt : i < a.length
  case neg =>
    have : areCutsB a keys d = true := by
      simp only [areCutsB, Bool.and_eq_true, decide_eq_true_eq]
      exact ⟨⟨⟨h0, h1⟩, h2⟩, all_of_nth fun j hj => hn j (by omega)⟩
    simp (disch := first | (simp only [go_sem, Bool.and_self, eq_self]; done) | omega | (simp only [List.length_cons, List.length_nil]; omega)) only [go_sem, ↓reduceIte, Nat.reduceEqDiff, Nat.reduceAdd, Nat.reduceMul, Nat.reduceSub, Int.reduceToNat, s28, s0, s26, s27, hlt, this]
  have k48 : ∀ h h' K, ConW Try.prog cfg 48 h (some ([LI (nth a i), .fn 50 [.pp [I d]]], h')) K = K (.bool ((nth a i).any fun x => !decide (1 ≤ x ∧ x ≤ d))) h :=
    fun h h' K => ConW_num (f48_con (nth a i) (ha.row hlt) 50 [.pp [I d]] _ rfl (fun _ => rfl) rfl (fun x => f50_con x d)) rfl
  by_cases h3 : (nth a i).length = (nth a 0).length
  case neg =>
    have : areCutsB a keys d = false := by
      have := not_all_of (p := fun r => decide (r.length = (nth a 0).length) && r.all fun x => decide (1 ≤ x ∧ x ≤ d)) hlt (by simp [h3])
      simp only [areCutsB, this, Bool.and_false]
    simp (disch := first | (simp only [go_sem, Bool.and_self, eq_self]; done) | omega | (simp only [List.length_cons, List.length_nil]; omega)) only [go_sem, ↓reduceIte, Nat.reduceEqDiff, Nat.reduceAdd, Nat.reduceMul, Nat.reduceSub, Int.reduceToNat, s28, s0, s26, s27, s5, hlt, h3, this]
  have hse : sealA h (.fn 50 [.ptr 0 0]) = some (.fn 50 [.pp [I d]], h.put 0 (some (.cells true false [I d]))) := by
    simp [sealA, AV.isPure, AV.pureL, sealCells, sealV, sealV0, hbl]
  cases h4 : (nth a i).all fun x => decide (1 ≤ x ∧ x ≤ d) with
  | false =>
    have : areCutsB a keys d = false := by
      have := not_all_of (p := fun r => decide (r.length = (nth a 0).length) && r.all fun x => decide (1 ≤ x ∧ x ≤ d)) hlt (by simp only [h4, Bool.and_false])
      simp only [areCutsB, this, Bool.and_false]
    simp (disch := first | (simp only [go_sem, Bool.and_self, eq_self]; done) | omega | (simp only [List.length_cons, List.length_nil]; omega)) only [go_sem, ↓reduceIte, Nat.reduceEqDiff, Nat.reduceAdd, Nat.reduceMul, Nat.reduceSub, Int.reduceToNat, s28, s0, s26, s27, s5, hlt, h3, this, hse, k48, any_not, h4]
  | true =>
    simp (disch := first | (simp only [go_sem, Bool.and_self, eq_self]; done) | omega | (simp only [List.length_cons, List.length_nil]; omega)) only [go_sem, ↓reduceIte, Nat.reduceEqDiff, Nat.reduceAdd, Nat.reduceMul, Nat.reduceSub, Int.reduceToNat, s28, s0, s26, s27, s5, hlt, h3, hse, k48, any_not, h4]
    rw [ForK_normal]
    refine ⟨hlt, by simp (disch := first | (simp only [go_sem, Bool.and_self, eq_self]; done) | omega | (simp only [List.length_cons, List.length_nil]; omega)) only [go_sem, ↓reduceIte, Nat.reduceEqDiff, Nat.reduceAdd, Nat.reduceMul, Nat.reduceSub, Int.reduceToNat, s28], by simp (disch := first | (simp only [go_sem, Bool.and_self, eq_self]; done) | omega | (simp only [List.length_cons, List.length_nil]; omega)) only [go_sem, ↓reduceIte, Nat.reduceEqDiff, Nat.reduceAdd, Nat.reduceMul, Nat.reduceSub, Int.reduceToNat, s0], by simp (disch := first | (simp only [go_sem, Bool.and_self, eq_self]; done) | omega | (simp only [List.length_cons, List.length_nil]; omega)) only [go_sem, ↓reduceIte, Nat.reduceEqDiff, Nat.reduceAdd, Nat.reduceMul, Nat.reduceSub, Int.reduceToNat, s26], by simp (disch := first | (simp only [go_sem, Bool.and_self, eq_self]; done) | omega | (simp only [List.length_cons, List.length_nil]; omega)) only [go_sem, ↓reduceIte, Nat.reduceEqDiff, Nat.reduceAdd, Nat.reduceMul, Nat.reduceSub, Int.reduceToNat, s27], by simp (disch := first | (simp only [go_sem, Bool.and_self, eq_self]; done) | omega | (simp only [List.length_cons, List.length_nil]; omega)) only [go_sem, ↓reduceIte, Nat.reduceEqDiff, Nat.reduceAdd, Nat.reduceMul, Nat.reduceSub, Int.reduceToNat, s5], hnx, ⟨fz, hbl⟩, fun j hj => ?_⟩
    rcases Nat.lt_or_ge j i with hj' | hj'
    · exact hn j hj'
    · rw [show j = i by omega, h3, h4]; simp
theorem k33 (a : List (List Int)) (ha : okLL a) (keys d : Int) (hk : 0 < keys) : ConW Try.prog cfg 33 h (some ([LLI a, I keys, I d], h')) K = K (.bool (areCutsB a keys d)) h := ConW_num (f33_con a ha keys d hk) rfl
end Go.Proofs.Ytkjdnnedncomgaa
