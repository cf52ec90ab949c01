/-
  LocksChecks, walked.
-/
import Derived.Test.YtkjdnnedncomgaaL5S
import Derived.Test.YtkjdnnedncomgaaL5W
set_option linter.unusedVariables false
set_option linter.unusedSimpArgs false
set_option maxRecDepth 10000
namespace Go.Proofs.Ytkjdnnedncomgaa
open Go Go.Am

variable {h h' : Hp} {K : AV → Hp → Prop}

def strN (a cuts : List (List Int)) (d lock : Int) : Int := if strOk a cuts d lock then strangersB a cuts d lock.toNat else 0
def strE (a cuts : List (List Int)) (d lock : Int) : Int := if strOk a cuts d lock then 0 else 2
theorem kk14 (a cuts : List (List Int)) (ha : okLL a) (hc : okLL cuts) (d lock : Int) : ConW Try.prog cfg 14 h (some ([LLI a, LLI cuts, I d, I lock], h')) K = K (.tup [I (strN a cuts d lock), I (strE a cuts d lock)]) h := by
  have := f14_con a cuts ha hc d lock
  cases hs : strOk a cuts d lock with
  | false => rw [hs] at this; simp only [strN, strE, hs]; exact ConW_num this rfl
  | true => rw [hs] at this; simp only [strN, strE, hs]; exact ConW_num this rfl

theorem okLL_table {a : List (List Int)} (ha : okLL a) : okLL (tableM a) := by
  refine ⟨by simp [tableM]; omega, fun r hr => ?_⟩
  simp only [tableM, List.mem_map] at hr
  obtain ⟨i, _, rfl⟩ := hr
  rw [tableRow, List.length_take]; omega

theorem areCuts_ref (a : List (List Int)) (k d : Int) : areCutsB a k d = (decide (1 ≤ d ∧ d ≤ 4) && refCutsB a k d) := by
  simp only [areCutsB, refCutsB, Bool.and_assoc]
  rfl

set_option maxHeartbeats 4000000 in
theorem f6_con (acc cuts : List (List Int)) (d lock : Int) (ha : okLL acc) (hcu : okLL cuts) : Con Try.prog cfg 6 [LLI acc, LLI cuts, .agg [I d, I lock]] (.bool true) := by
  have m1 := fun h h' K => k19 (h := h) (h' := h') (K := K) acc ha
  have m2 := fun h h' K => k19 (h := h) (h' := h') (K := K) cuts hcu
  have ha' := okLL_table ha
  have hc' := okLL_table hcu
  generalize tableM acc = a at m1 ha'
  generalize tableM cuts = p at m2 hc'
  have m3 := fun h h' K => k25 (h := h) (h' := h') (K := K) a p ha' hc' d
  have m4 := fun h h' K => k26 (h := h) (h' := h') (K := K) a p ha' hc' d
  have m5 := fun h h' K => kk14 (h := h) (h' := h') (K := K) a p ha' hc' d lock
  have m6 := fun h h' K => k21 (h := h) (h' := h') (K := K) a ha'
  refine Con_intro Try.func6 rfl ok6 (Nat.le_of_ble_eq_true rfl) rfl ?_
  simp only [Try.f6, Option.getD_some, initSt3]
  cases hf : fitB a p d with
  | false =>
    have hs : strOk a p d lock = false := by simp only [strOk]; rw [show (isPlanB a && areCutsB p a.length d) = false from hf]; rfl
    have e1 : checkM a p d = 2 := by simp [checkM, hf]
    have e2 : wrongM a p d = [] := by simp [wrongM, hf]
    have e3 : strN a p d lock = 0 := by simp [strN, hs]
    have e4 : strE a p d lock = 2 := by simp [strE, hs]
    cases h1 : isPlanB a with
    | false => simp (disch := first | (simp only [go_sem, Bool.and_self, eq_self]; done) | omega) only [go_sem, ↓reduceIte, Nat.reduceEqDiff, Nat.reduceAdd, Nat.reduceMul, Nat.reduceSub, m1, m2, m3, m4, m5, m6, e1, e2, e3, e4, hf, h1, List.length_nil, Int.natCast_zero]
    | true =>
    by_cases h2 : d < 1
    · simp (disch := first | (simp only [go_sem, Bool.and_self, eq_self]; done) | omega) only [go_sem, ↓reduceIte, Nat.reduceEqDiff, Nat.reduceAdd, Nat.reduceMul, Nat.reduceSub, m1, m2, m3, m4, m5, m6, e1, e2, e3, e4, hf, h1, h2, List.length_nil, Int.natCast_zero]
    by_cases h3 : 4 < d
    · simp (disch := first | (simp only [go_sem, Bool.and_self, eq_self]; done) | omega) only [go_sem, ↓reduceIte, Nat.reduceEqDiff, Nat.reduceAdd, Nat.reduceMul, Nat.reduceSub, m1, m2, m3, m4, m5, m6, e1, e2, e3, e4, hf, h1, h2, h3, List.length_nil, Int.natCast_zero]
    have hpl := h1
    simp only [isPlanB, Bool.and_eq_true, decide_eq_true_eq] at hpl
    obtain ⟨⟨p1, p2⟩, _⟩ := hpl
    have m7 := fun h h' K => k23 (h := h) (h' := h') (K := K) p hc' a.length d (by omega)
    have h4 : refCutsB p a.length d = false := by
      have := hf
      rw [fitB, h1, areCuts_ref, decide_eq_true (by omega)] at this
      simpa using this
    simp (disch := first | (simp only [go_sem, Bool.and_self, eq_self]; done) | omega) only [go_sem, ↓reduceIte, Nat.reduceEqDiff, Nat.reduceAdd, Nat.reduceMul, Nat.reduceSub, m1, m2, m3, m4, m5, m6, m7, e1, e2, e3, e4, hf, h1, h2, h3, h4, List.length_nil, Int.natCast_zero]
  | true =>
    have f := fitB_fit hf
    have hd := f.depth
    have hk := f.keys
    have hlo := f.locks
    have h1 : isPlanB a = true := by rw [fitB, Bool.and_eq_true] at hf; exact hf.1
    have h4 : refCutsB p a.length d = true := by rw [fitB, Bool.and_eq_true, areCuts_ref, Bool.and_eq_true] at hf; exact hf.2.2
    have h2 : ¬ d < 1 := by omega
    have h3 : ¬ 4 < d := by omega
    have m7 := fun h h' K => k23 (h := h) (h' := h') (K := K) p hc' a.length d (by omega)
    have m8 := fun h h' K => k24 (h := h) (h' := h') (K := K) f
    have m9 := fun h h' K => k27 (h := h) (h' := h') (K := K) (wrongL a p a.length) (wrongL a p a.length) (by have := wrongL_len f (Nat.le_refl _); omega)
    have m0 : isPlanB a = true ∧ areCutsB p a.length d = true := by rw [fitB, Bool.and_eq_true] at hf; exact hf
    have e2 : wrongM a p d = wrongL a p a.length := by simp [wrongM, hf]
    have e1 : checkM a p d = if (wrongL a p a.length).length = 0 then 0 else 10 := by simp [checkM, hf]
    have so : strOk a p d lock = decide (0 ≤ lock ∧ lock ≤ (nth a 0).length - 1) := by simp only [strOk, m0.1, m0.2, Bool.true_and]
    have hcz : (checkM a p d = 0 ∧ ((wrongL a p a.length).length : Int) = 0) ∨ (checkM a p d = 10 ∧ ¬ ((wrongL a p a.length).length : Int) = 0) := by
      by_cases hz : (wrongL a p a.length).length = 0
      · exact .inl ⟨by rw [e1, if_pos hz], by omega⟩
      · exact .inr ⟨by rw [e1, if_neg hz], by omega⟩
    have hlz : ((((wrongL a p a.length).length : Nat) : Int) = 0) ↔ (wrongL a p a.length).length = 0 := by omega
    generalize (wrongL a p a.length) = w at *
    have t0 : ¬ (10 : Int) = 0 := by omega
    by_cases h5 : lock < 0
    · have e3 : strN a p d lock = 0 := by rw [strN, so, decide_eq_false (by omega)]; rfl
      have e4 : strE a p d lock = 2 := by rw [strE, so, decide_eq_false (by omega)]; rfl
      rcases hcz with ⟨c1, c2⟩ | ⟨c1, c2⟩
      · simp (disch := first | (simp only [go_sem, Bool.and_self, eq_self]; done) | omega) only [go_sem, ↓reduceIte, Nat.reduceEqDiff, Nat.reduceAdd, Nat.reduceMul, Nat.reduceSub, m1, m2, m3, m4, m5, m6, m7, m8, m9, c1, e2, e3, e4, hf, h1, h2, h3, h4, h5, c2, binA_bne, eq_self, t0]
      · simp (disch := first | (simp only [go_sem, Bool.and_self, eq_self]; done) | omega) only [go_sem, ↓reduceIte, Nat.reduceEqDiff, Nat.reduceAdd, Nat.reduceMul, Nat.reduceSub, m1, m2, m3, m4, m5, m6, m7, m8, m9, c1, e2, e3, e4, hf, h1, h2, h3, h4, h5, c2, binA_bne, eq_self, t0]
    by_cases h6 : ((nth a 0).length : Int) ≤ lock
    · have e3 : strN a p d lock = 0 := by rw [strN, so, decide_eq_false (by omega)]; rfl
      have e4 : strE a p d lock = 2 := by rw [strE, so, decide_eq_false (by omega)]; rfl
      rcases hcz with ⟨c1, c2⟩ | ⟨c1, c2⟩
      · simp (disch := first | (simp only [go_sem, Bool.and_self, eq_self]; done) | omega) only [go_sem, ↓reduceIte, Nat.reduceEqDiff, Nat.reduceAdd, Nat.reduceMul, Nat.reduceSub, m1, m2, m3, m4, m5, m6, m7, m8, m9, c1, e2, e3, e4, hf, h1, h2, h3, h4, h5, h6, c2, binA_bne, eq_self, t0]
      · simp (disch := first | (simp only [go_sem, Bool.and_self, eq_self]; done) | omega) only [go_sem, ↓reduceIte, Nat.reduceEqDiff, Nat.reduceAdd, Nat.reduceMul, Nat.reduceSub, m1, m2, m3, m4, m5, m6, m7, m8, m9, c1, e2, e3, e4, hf, h1, h2, h3, h4, h5, h6, c2, binA_bne, eq_self, t0]
    obtain ⟨lk, rfl⟩ : ∃ lk : Nat, lock = lk := ⟨lock.toNat, by omega⟩
    have e3 : strN a p d lk = strangersB a p d lk := by rw [strN, so, decide_eq_true (by omega)]; rfl
    have e4 : strE a p d lk = 0 := by rw [strE, so, decide_eq_true (by omega)]; rfl
    have m10 := fun h h' K => k28 (h := h) (h' := h') (K := K) f (lk := lk) (by omega)
    have h6' : ¬ (nth a 0).length ≤ lk := by omega
    rcases hcz with ⟨c1, c2⟩ | ⟨c1, c2⟩
    · simp (disch := first | (simp only [go_sem, Bool.and_self, eq_self]; done) | omega) only [go_sem, ↓reduceIte, Nat.reduceEqDiff, Nat.reduceAdd, Nat.reduceMul, Nat.reduceSub, m1, m2, m3, m4, m5, m6, m7, m8, m9, m10, c1, e2, e3, e4, hf, h1, h2, h3, h4, h5, h6', c2, binA_bne, eq_self, t0]
    · simp (disch := first | (simp only [go_sem, Bool.and_self, eq_self]; done) | omega) only [go_sem, ↓reduceIte, Nat.reduceEqDiff, Nat.reduceAdd, Nat.reduceMul, Nat.reduceSub, m1, m2, m3, m4, m5, m6, m7, m8, m9, m10, c1, e2, e3, e4, hf, h1, h2, h3, h4, h5, h6', c2, binA_bne, eq_self, t0]
end Go.Proofs.Ytkjdnnedncomgaa
