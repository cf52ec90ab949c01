/-
  How many possible keys open a lock.
-/
import Derived.Test.YtkjdnnedncomgaaL5E
set_option linter.unusedVariables false
set_option linter.unusedSimpArgs false
set_option maxRecDepth 10000
namespace Go.Proofs.Ytkjdnnedncomgaa
open Go Go.Am

variable {h h' : Hp} {K : AV → Hp → Prop}

/-- The depths of a lock in a chamber, counted. -/
def cntB (a cuts : List (List Int)) (lock c n : Nat) : Int := sumN (fun x => if pinB a cuts lock c ((x : Int) + 1) then 1 else 0) n
def strangersB (a cuts : List (List Int)) (d : Int) (lock : Nat) : Int := prodN (fun c => cntB a cuts lock c d.toNat) (nth cuts 0).length

theorem cntB_bounds (a cuts : List (List Int)) (lock c n : Nat) : 0 ≤ cntB a cuts lock c n ∧ cntB a cuts lock c n ≤ n := by
  have := sumN_bounds (f := fun x => if pinB a cuts lock c ((x : Int) + 1) then 1 else 0) (lo := 0) (hi := 1) (n := n) (fun i _ => by split <;> omega)
  unfold cntB; omega
theorem prodN_bounds {f : Nat → Int} : ∀ {n : Nat}, n ≤ 4 → (∀ i, i < n → 0 ≤ f i ∧ f i ≤ 4) → 0 ≤ prodN f n ∧ prodN f n ≤ 4 ^ n
  | 0, _, _ => by simp [prodN]
  | n + 1, hn, h => by
    obtain ⟨h1, h2⟩ := prodN_bounds (n := n) (by omega) fun i hi => h i (Nat.lt_succ_of_lt hi)
    obtain ⟨h3, h4⟩ := h n (Nat.lt_succ_self n)
    rw [prodN]
    refine ⟨Int.mul_nonneg h1 h3, ?_⟩
    rw [Int.pow_succ]
    exact Int.mul_le_mul h2 h4 h3 (Int.le_trans h1 h2)
theorem pow4_le {n : Nat} (hn : n ≤ 4) : (4 : Int) ^ n ≤ 256 := by
  have : n = 0 ∨ n = 1 ∨ n = 2 ∨ n = 3 ∨ n = 4 := by omega
  rcases this with rfl | rfl | rfl | rfl | rfl <;> decide

theorem k35 {a cuts : List (List Int)} {d : Int} (f : Fit a cuts d) {lock : Nat} (hl : lock < (nth a 0).length) : ConW Try.prog cfg 35 h (some ([LLI a, LLI cuts, I lock], h')) K = K (LI (masks a cuts lock a.length 0)) h' := by
  rw [ConW_any (f35_con a cuts d f lock hl) rfl]; rfl

/-- The arguments that Strangers takes. -/
def strOk (a cuts : List (List Int)) (d lock : Int) : Bool := isPlanB a && areCutsB cuts a.length d && decide (0 ≤ lock ∧ lock ≤ (nth a 0).length - 1)

theorem f14_con (a cuts : List (List Int)) (ha : okLL a) (hc : okLL cuts) (d lock : Int) :
    Con Try.prog cfg 14 [LLI a, LLI cuts, I d, I lock] (if strOk a cuts d lock then .tup [I (strangersB a cuts d lock.toNat), I 0] else .tup [I 0, I 2]) := by
  have kk1 := fun h h' K => k32 (h := h) (h' := h') (K := K) a ha
  refine Con_intro Try.func14 rfl ok14 (Nat.le_of_ble_eq_true rfl) rfl ?_
  simp only [Try.f14, Option.getD_some, initSt4]
  cases h1 : isPlanB a with
  | false =>
    have : strOk a cuts d lock = false := by simp [strOk, h1]
    simp (disch := first | (simp only [go_sem, Bool.and_self, eq_self]; done) | omega | (simp only [List.length_cons, List.length_nil]; omega)) only [go_sem, ↓reduceIte, Nat.reduceEqDiff, Nat.reduceAdd, Nat.reduceMul, Nat.reduceSub, Int.reduceToNat, kk1, h1, this]
  | true =>
  have hpl := h1
  simp only [isPlanB, Bool.and_eq_true, decide_eq_true_eq] at hpl
  obtain ⟨⟨p1, p2⟩, _⟩ := hpl
  have kk2 := fun h h' K => k33 (h := h) (h' := h') (K := K) cuts hc a.length d (by omega)
  cases h2 : areCutsB cuts a.length d with
  | false =>
    have : strOk a cuts d lock = false := by simp [strOk, h2]
    simp (disch := first | (simp only [go_sem, Bool.and_self, eq_self]; done) | omega | (simp only [List.length_cons, List.length_nil]; omega)) only [go_sem, ↓reduceIte, Nat.reduceEqDiff, Nat.reduceAdd, Nat.reduceMul, Nat.reduceSub, Int.reduceToNat, kk1, kk2, h1, h2, this]
  | true =>
  by_cases h3 : 0 ≤ lock ∧ lock ≤ (nth a 0).length - 1
  case neg =>
    have : strOk a cuts d lock = false := by simp only [strOk, decide_eq_false h3, Bool.and_false]
    simp (disch := first | (simp only [go_sem, Bool.and_self, eq_self]; done) | omega | (simp only [List.length_cons, List.length_nil]; omega)) only [go_sem, ↓reduceIte, Nat.reduceEqDiff, Nat.reduceAdd, Nat.reduceMul, Nat.reduceSub, Int.reduceToNat, kk1, kk2, h1, h2, decide_eq_false h3, this]
  have : strOk a cuts d lock = true := by simp only [strOk, h1, h2, decide_eq_true h3, Bool.and_self]
  have f := Fit.of h1 h2
  obtain ⟨lk, rfl⟩ : ∃ lk : Nat, lock = lk := ⟨lock.toNat, by omega⟩
  have hlk : lk < (nth a 0).length := by omega
  have kk3 := fun h h' K => k35 (h := h) (h' := h') (K := K) f hlk
  have hml := masks_len a cuts lk a.length 0
  simp (disch := first | (simp only [go_sem, Bool.and_self, eq_self]; done) | omega | (simp only [List.length_cons, List.length_nil]; omega)) only [go_sem, ↓reduceIte, Nat.reduceEqDiff, Nat.reduceAdd, Nat.reduceMul, Nat.reduceSub, Int.reduceToNat, kk1, kk2, h1, h2, decide_eq_true h3, this, kk3, hml]
  have hch := f.cham
  have hd := f.depth
  refine WP_for 41 (nth cuts 0).length (fun i st h => st 2 = I d ∧ st 39 = LI (masks a cuts lk a.length 0) ∧ st 40 = I (nth cuts 0).length ∧ st 10 = I (prodN (fun c => cntB a cuts lk c d.toNat) i))
    (by simp (disch := first | (simp only [go_sem, Bool.and_self, eq_self]; done) | omega | (simp only [List.length_cons, List.length_nil]; omega)) only [go_sem, ↓reduceIte, Nat.reduceEqDiff, Nat.reduceAdd, Nat.reduceMul, Nat.reduceSub, Int.reduceToNat]) ⟨by simp (disch := first | (simp only [go_sem, Bool.and_self, eq_self]; done) | omega | (simp only [List.length_cons, List.length_nil]; omega)) only [go_sem, ↓reduceIte, Nat.reduceEqDiff, Nat.reduceAdd, Nat.reduceMul, Nat.reduceSub, Int.reduceToNat], by simp (disch := first | (simp only [go_sem, Bool.and_self, eq_self]; done) | omega | (simp only [List.length_cons, List.length_nil]; omega)) only [go_sem, ↓reduceIte, Nat.reduceEqDiff, Nat.reduceAdd, Nat.reduceMul, Nat.reduceSub, Int.reduceToNat], by simp (disch := first | (simp only [go_sem, Bool.and_self, eq_self]; done) | omega | (simp only [List.length_cons, List.length_nil]; omega)) only [go_sem, ↓reduceIte, Nat.reduceEqDiff, Nat.reduceAdd, Nat.reduceMul, Nat.reduceSub, Int.reduceToNat], by simp (disch := first | (simp only [go_sem, Bool.and_self, eq_self]; done) | omega | (simp only [List.length_cons, List.length_nil]; omega)) only [go_sem, ↓reduceIte, Nat.reduceEqDiff, Nat.reduceAdd, Nat.reduceMul, Nat.reduceSub, Int.reduceToNat]; rfl⟩ ?_
  rintro i st h hi s41 ⟨s2, s39, s40, s10⟩
  by_cases hlt : i < (nth cuts 0).length
  case neg =>
    have hik : i = (nth cuts 0).length := by omega
    simp (disch := first | (simp only [go_sem, Bool.and_self, eq_self]; done) | omega | (simp only [List.length_cons, List.length_nil]; omega)) only [go_sem, ↓reduceIte, Nat.reduceEqDiff, Nat.reduceAdd, Nat.reduceMul, Nat.reduceSub, Int.reduceToNat, s41, s2, s39, s40, s10, hlt]
    rw [hik]; rfl
  have hb1 := prodN_bounds (f := fun c => cntB a cuts lk c d.toNat) (n := i) (by omega) fun c _ => by have := cntB_bounds a cuts lk c d.toNat; omega
  have hb2 := pow4_le (n := i) (by omega)
  have hmn := masks_nth (a := a) (cuts := cuts) (lock := lk) (n := a.length) (j := 0) hlt
  rw [if_neg (by omega)] at hmn
  have hmlt := maskN_lt f (lock := lk) hlt (n := a.length) (by omega)
  simp (disch := first | (simp only [go_sem, Bool.and_self, eq_self]; done) | omega | (simp only [List.length_cons, List.length_nil]; omega)) only [go_sem, ↓reduceIte, Nat.reduceEqDiff, Nat.reduceAdd, Nat.reduceMul, Nat.reduceSub, Int.reduceToNat, s41, s2, s39, s40, s10, hlt, hmn]
  refine WP_cut (fun st h => st 2 = I d ∧ st 39 = LI (masks a cuts lk a.length 0) ∧ st 40 = I (nth cuts 0).length ∧ st 41 = I i ∧ st 10 = I (prodN (fun c => cntB a cuts lk c d.toNat) i) ∧ st 13 = I (cntB a cuts lk i d.toNat)) ?_ ?_
  · refine WP_for1 14 d.toNat (fun x st h => st 2 = I d ∧ st 39 = LI (masks a cuts lk a.length 0) ∧ st 40 = I (nth cuts 0).length ∧ st 41 = I i ∧ st 10 = I (prodN (fun c => cntB a cuts lk c d.toNat) i) ∧ st 12 = I (maskN a cuts lk i a.length) ∧ st 13 = I (cntB a cuts lk i x))
      (by simp (disch := first | (simp only [go_sem, Bool.and_self, eq_self]; done) | omega | (simp only [List.length_cons, List.length_nil]; omega)) only [go_sem, ↓reduceIte, Nat.reduceEqDiff, Nat.reduceAdd, Nat.reduceMul, Nat.reduceSub, Int.reduceToNat]) ⟨by simp (disch := first | (simp only [go_sem, Bool.and_self, eq_self]; done) | omega | (simp only [List.length_cons, List.length_nil]; omega)) only [go_sem, ↓reduceIte, Nat.reduceEqDiff, Nat.reduceAdd, Nat.reduceMul, Nat.reduceSub, Int.reduceToNat, s2], by simp (disch := first | (simp only [go_sem, Bool.and_self, eq_self]; done) | omega | (simp only [List.length_cons, List.length_nil]; omega)) only [go_sem, ↓reduceIte, Nat.reduceEqDiff, Nat.reduceAdd, Nat.reduceMul, Nat.reduceSub, Int.reduceToNat, s39], by simp (disch := first | (simp only [go_sem, Bool.and_self, eq_self]; done) | omega | (simp only [List.length_cons, List.length_nil]; omega)) only [go_sem, ↓reduceIte, Nat.reduceEqDiff, Nat.reduceAdd, Nat.reduceMul, Nat.reduceSub, Int.reduceToNat, s40], by simp (disch := first | (simp only [go_sem, Bool.and_self, eq_self]; done) | omega | (simp only [List.length_cons, List.length_nil]; omega)) only [go_sem, ↓reduceIte, Nat.reduceEqDiff, Nat.reduceAdd, Nat.reduceMul, Nat.reduceSub, Int.reduceToNat, s41], by simp (disch := first | (simp only [go_sem, Bool.and_self, eq_self]; done) | omega | (simp only [List.length_cons, List.length_nil]; omega)) only [go_sem, ↓reduceIte, Nat.reduceEqDiff, Nat.reduceAdd, Nat.reduceMul, Nat.reduceSub, Int.reduceToNat, s10], by simp (disch := first | (simp only [go_sem, Bool.and_self, eq_self]; done) | omega | (simp only [List.length_cons, List.length_nil]; omega)) only [go_sem, ↓reduceIte, Nat.reduceEqDiff, Nat.reduceAdd, Nat.reduceMul, Nat.reduceSub, Int.reduceToNat], by simp (disch := first | (simp only [go_sem, Bool.and_self, eq_self]; done) | omega | (simp only [List.length_cons, List.length_nil]; omega)) only [go_sem, ↓reduceIte, Nat.reduceEqDiff, Nat.reduceAdd, Nat.reduceMul, Nat.reduceSub, Int.reduceToNat]; rfl⟩ ?_
    rintro x st h hx s14 ⟨s2, s39, s40, s41, s10, s12, s13⟩
    by_cases hxd : (x : Int) + 1 ≤ d
    case neg =>
      have : x = d.toNat := by omega
      simp (disch := first | (simp only [go_sem, Bool.and_self, eq_self]; done) | omega | (simp only [List.length_cons, List.length_nil]; omega)) only [go_sem, ↓reduceIte, Nat.reduceEqDiff, Nat.reduceAdd, Nat.reduceMul, Nat.reduceSub, Int.reduceToNat, s2, s39, s40, s41, s10, s12, s13, s14, hxd]
      rw [this]
    have hcb := cntB_bounds a cuts lk i x
    have hsh : binA Try.prog .shr 3 (I (maskN a cuts lk i a.length)) (I ((x : Int) + 1)) = some (I ((maskN a cuts lk i a.length >>> (x + 1) : Nat) : Int)) := shr_nat 3 _ (x + 1) (by omega)
    have hsl : maskN a cuts lk i a.length >>> (x + 1) < 9223372036854775808 := by rw [Nat.shiftRight_eq_div_pow]; exact Nat.lt_of_le_of_lt (Nat.div_le_self _ _) (by omega)
    have hand := binA_and (P := Try.prog) 3 (maskN a cuts lk i a.length >>> (x + 1)) 1 hsl (by omega)
    have hand' : binA Try.prog .and 3 (I ((maskN a cuts lk i a.length >>> (x + 1) : Nat) : Int)) (I 1) = some (I (if pinB a cuts lk i ((x : Int) + 1) then 1 else 0)) := by
      have e := maskN_bit f hlk hlt (x + 1)
      rw [show ((1 : Int)) = ((1 : Nat) : Int) from rfl, hand, bit_test, e]
      congr 2
      rw [Int.natCast_add]
      split <;> rfl
    have hbit : (0 : Int) ≤ (if pinB a cuts lk i ((x : Int) + 1) then 1 else 0) ∧ (if pinB a cuts lk i ((x : Int) + 1) then 1 else 0) ≤ (1 : Int) := by split <;> omega
    generalize hB : (if pinB a cuts lk i ((x : Int) + 1) then (1 : Int) else 0) = B at *
    simp (disch := first | (simp only [go_sem, Bool.and_self, eq_self]; done) | omega | (simp only [List.length_cons, List.length_nil]; omega)) only [go_sem, ↓reduceIte, Nat.reduceEqDiff, Nat.reduceAdd, Nat.reduceMul, Nat.reduceSub, Int.reduceToNat, s2, s39, s40, s41, s10, s12, s13, s14, hxd, hsh, hand']
    rw [For1K_normal]
    refine ⟨by omega, by simp (disch := first | (simp only [go_sem, Bool.and_self, eq_self]; done) | omega | (simp only [List.length_cons, List.length_nil]; omega)) only [go_sem, ↓reduceIte, Nat.reduceEqDiff, Nat.reduceAdd, Nat.reduceMul, Nat.reduceSub, Int.reduceToNat, s14], by simp (disch := first | (simp only [go_sem, Bool.and_self, eq_self]; done) | omega | (simp only [List.length_cons, List.length_nil]; omega)) only [go_sem, ↓reduceIte, Nat.reduceEqDiff, Nat.reduceAdd, Nat.reduceMul, Nat.reduceSub, Int.reduceToNat, s2], by simp (disch := first | (simp only [go_sem, Bool.and_self, eq_self]; done) | omega | (simp only [List.length_cons, List.length_nil]; omega)) only [go_sem, ↓reduceIte, Nat.reduceEqDiff, Nat.reduceAdd, Nat.reduceMul, Nat.reduceSub, Int.reduceToNat, s39], by simp (disch := first | (simp only [go_sem, Bool.and_self, eq_self]; done) | omega | (simp only [List.length_cons, List.length_nil]; omega)) only [go_sem, ↓reduceIte, Nat.reduceEqDiff, Nat.reduceAdd, Nat.reduceMul, Nat.reduceSub, Int.reduceToNat, s40], by simp (disch := first | (simp only [go_sem, Bool.and_self, eq_self]; done) | omega | (simp only [List.length_cons, List.length_nil]; omega)) only [go_sem, ↓reduceIte, Nat.reduceEqDiff, Nat.reduceAdd, Nat.reduceMul, Nat.reduceSub, Int.reduceToNat, s41], by simp (disch := first | (simp only [go_sem, Bool.and_self, eq_self]; done) | omega | (simp only [List.length_cons, List.length_nil]; omega)) only [go_sem, ↓reduceIte, Nat.reduceEqDiff, Nat.reduceAdd, Nat.reduceMul, Nat.reduceSub, Int.reduceToNat, s10], by simp (disch := first | (simp only [go_sem, Bool.and_self, eq_self]; done) | omega | (simp only [List.length_cons, List.length_nil]; omega)) only [go_sem, ↓reduceIte, Nat.reduceEqDiff, Nat.reduceAdd, Nat.reduceMul, Nat.reduceSub, Int.reduceToNat, s12], ?_⟩
    simp (disch := first | (simp only [go_sem, Bool.and_self, eq_self]; done) | omega | (simp only [List.length_cons, List.length_nil]; omega)) only [go_sem, ↓reduceIte, Nat.reduceEqDiff, Nat.reduceAdd, Nat.reduceMul, Nat.reduceSub, Int.reduceToNat]
    rw [← hB]; rfl
  · rintro st h ⟨s2, s39, s40, s41, s10, s13⟩
    have hb1' := prodN_bounds (f := fun c => cntB a cuts lk c d.toNat) (n := i + 1) (by omega) fun c _ => by have := cntB_bounds a cuts lk c d.toNat; omega
    have hb2' := pow4_le (n := i + 1) (by omega)
    rw [prodN] at hb1'
    simp (disch := first | (simp only [go_sem, Bool.and_self, eq_self]; done) | omega | (simp only [List.length_cons, List.length_nil]; omega)) only [go_sem, ↓reduceIte, Nat.reduceEqDiff, Nat.reduceAdd, Nat.reduceMul, Nat.reduceSub, Int.reduceToNat, s2, s39, s40, s41, s10, s13]
    rw [ForK_normal]
    refine ⟨hlt, by simp (disch := first | (simp only [go_sem, Bool.and_self, eq_self]; done) | omega | (simp only [List.length_cons, List.length_nil]; omega)) only [go_sem, ↓reduceIte, Nat.reduceEqDiff, Nat.reduceAdd, Nat.reduceMul, Nat.reduceSub, Int.reduceToNat, s41], by simp (disch := first | (simp only [go_sem, Bool.and_self, eq_self]; done) | omega | (simp only [List.length_cons, List.length_nil]; omega)) only [go_sem, ↓reduceIte, Nat.reduceEqDiff, Nat.reduceAdd, Nat.reduceMul, Nat.reduceSub, Int.reduceToNat, s2], by simp (disch := first | (simp only [go_sem, Bool.and_self, eq_self]; done) | omega | (simp only [List.length_cons, List.length_nil]; omega)) only [go_sem, ↓reduceIte, Nat.reduceEqDiff, Nat.reduceAdd, Nat.reduceMul, Nat.reduceSub, Int.reduceToNat, s39], by simp (disch := first | (simp only [go_sem, Bool.and_self, eq_self]; done) | omega | (simp only [List.length_cons, List.length_nil]; omega)) only [go_sem, ↓reduceIte, Nat.reduceEqDiff, Nat.reduceAdd, Nat.reduceMul, Nat.reduceSub, Int.reduceToNat, s40], by simp (disch := first | (simp only [go_sem, Bool.and_self, eq_self]; done) | omega | (simp only [List.length_cons, List.length_nil]; omega)) only [go_sem, ↓reduceIte, Nat.reduceEqDiff, Nat.reduceAdd, Nat.reduceMul, Nat.reduceSub, Int.reduceToNat]; rfl⟩
end Go.Proofs.Ytkjdnnedncomgaa
