/-
  The reference's Wrong and Strangers.
-/
import Derived.Test.YtkjdnnedncomgaaL5N
set_option linter.unusedVariables false
set_option linter.unusedSimpArgs false
set_option maxRecDepth 10000
namespace Go.Proofs.Ytkjdnnedncomgaa
open Go Go.Am

variable {h h' : Hp} {K : AV → Hp → Prop}

theorem f24_con {a p : List (List Int)} {d : Int} (f : Fit a p d) : Con Try.prog cfg 24 [LLI a, LLI p] (LP (wrongL a p a.length)) := by
  have hk := f.keys
  have hs := f.same
  have hlo := f.locks
  have hch := f.cham
  refine Con_intro Try.func24 rfl ok24 (Nat.le_of_ble_eq_true rfl) rfl ?_
  simp only [Try.f24, Option.getD_some, initSt2]
  simp (disch := first | (simp only [go_sem, Bool.and_self, eq_self]; done) | omega) only [go_sem, ↓reduceIte, Nat.reduceEqDiff, Nat.reduceAdd, Nat.reduceMul, Nat.reduceSub]
  refine WP_for 6 a.length (fun i st h => st 0 = LLI a ∧ st 1 = LLI p ∧ ∃ v, st 5 = v ∧ Own eP 2 h v (wrongL a p i)) (by simp (disch := first | (simp only [go_sem, Bool.and_self, eq_self]; done) | omega) only [go_sem, ↓reduceIte, Nat.reduceEqDiff, Nat.reduceAdd, Nat.reduceMul, Nat.reduceSub]) ⟨by simp (disch := first | (simp only [go_sem, Bool.and_self, eq_self]; done) | omega) only [go_sem, ↓reduceIte, Nat.reduceEqDiff, Nat.reduceAdd, Nat.reduceMul, Nat.reduceSub], by simp (disch := first | (simp only [go_sem, Bool.and_self, eq_self]; done) | omega) only [go_sem, ↓reduceIte, Nat.reduceEqDiff, Nat.reduceAdd, Nat.reduceMul, Nat.reduceSub], .nil, by simp (disch := first | (simp only [go_sem, Bool.and_self, eq_self]; done) | omega) only [go_sem, ↓reduceIte, Nat.reduceEqDiff, Nat.reduceAdd, Nat.reduceMul, Nat.reduceSub], .inl ⟨rfl, rfl⟩⟩ ?_
  rintro i st h hi s6 ⟨s0, s1, v, s5, how⟩
  by_cases hlt : i < a.length
  case neg =>
    have hie : i = a.length := by omega
    subst hie
    simp (disch := first | (simp only [go_sem, Bool.and_self, eq_self]; done) | omega) only [go_sem, ↓reduceIte, Nat.reduceEqDiff, Nat.reduceAdd, Nat.reduceMul, Nat.reduceSub, s6, s0, s1, s5, hlt]
    exact export_Own (f := eP) 43 how
  have hlp : i < p.length := by omega
  have hrow := f.row i hlt
  have hcr := f.crow i hlt
  simp (disch := first | (simp only [go_sem, Bool.and_self, eq_self]; done) | omega) only [go_sem, ↓reduceIte, Nat.reduceEqDiff, Nat.reduceAdd, Nat.reduceMul, Nat.reduceSub, s6, s0, s1, s5, hlt]
  refine WP_cut (fun st h => st 0 = LLI a ∧ st 1 = LLI p ∧ st 6 = I i ∧ ∃ v, st 5 = v ∧ Own eP 2 h v (wrongL a p (i + 1))) ?_ ?_
  · refine WP_for 7 (nth a i).length (fun j st h => st 0 = LLI a ∧ st 1 = LLI p ∧ st 6 = I i ∧ ∃ v, st 5 = v ∧ Own eP 2 h v (wrongL a p i ++ wrongRow a p i j))
      (by simp (disch := first | (simp only [go_sem, Bool.and_self, eq_self]; done) | omega) only [go_sem, ↓reduceIte, Nat.reduceEqDiff, Nat.reduceAdd, Nat.reduceMul, Nat.reduceSub]) ⟨by simp (disch := first | (simp only [go_sem, Bool.and_self, eq_self]; done) | omega) only [go_sem, ↓reduceIte, Nat.reduceEqDiff, Nat.reduceAdd, Nat.reduceMul, Nat.reduceSub, s0], by simp (disch := first | (simp only [go_sem, Bool.and_self, eq_self]; done) | omega) only [go_sem, ↓reduceIte, Nat.reduceEqDiff, Nat.reduceAdd, Nat.reduceMul, Nat.reduceSub, s1], by simp (disch := first | (simp only [go_sem, Bool.and_self, eq_self]; done) | omega) only [go_sem, ↓reduceIte, Nat.reduceEqDiff, Nat.reduceAdd, Nat.reduceMul, Nat.reduceSub, s6], v, by simp (disch := first | (simp only [go_sem, Bool.and_self, eq_self]; done) | omega) only [go_sem, ↓reduceIte, Nat.reduceEqDiff, Nat.reduceAdd, Nat.reduceMul, Nat.reduceSub, s5], by rw [show wrongRow a p i 0 = [] from rfl, List.append_nil]; exact how⟩ ?_
    rintro j st h hj s7 ⟨s0, s1, s6, v, s5, how⟩
    by_cases hjt : j < (nth a i).length
    case neg =>
      have hje : j = (nth a i).length := by omega
      simp (disch := first | (simp only [go_sem, Bool.and_self, eq_self]; done) | omega) only [go_sem, ↓reduceIte, Nat.reduceEqDiff, Nat.reduceAdd, Nat.reduceMul, Nat.reduceSub, s7, s0, s1, s6, s5, hlt, hjt]
      exact ⟨v, rfl, by rw [wrongL_succ, ← hje]; exact how⟩
    have hjl : j < (nth a 0).length := by omega
    have wl := wrongL_len f (n := i) (by omega)
    have wr := wrongRow_len a p i j
    by_cases hz : at2 a i j = 0
    case neg =>
      have he : wrongRow a p i (j + 1) = wrongRow a p i j := by rw [wrongRow_succ, if_neg (fun h => hz h.1), List.append_nil]
      simp (disch := first | (simp only [go_sem, Bool.and_self, eq_self]; done) | omega) only [go_sem, ↓reduceIte, Nat.reduceEqDiff, Nat.reduceAdd, Nat.reduceMul, Nat.reduceSub, s7, s0, s1, s6, s5, hlt, hjt, hz]
      rw [ForK_normal]
      exact ⟨hjt, by simp (disch := first | (simp only [go_sem, Bool.and_self, eq_self]; done) | omega) only [go_sem, ↓reduceIte, Nat.reduceEqDiff, Nat.reduceAdd, Nat.reduceMul, Nat.reduceSub, s7], by simp (disch := first | (simp only [go_sem, Bool.and_self, eq_self]; done) | omega) only [go_sem, ↓reduceIte, Nat.reduceEqDiff, Nat.reduceAdd, Nat.reduceMul, Nat.reduceSub, s0], by simp (disch := first | (simp only [go_sem, Bool.and_self, eq_self]; done) | omega) only [go_sem, ↓reduceIte, Nat.reduceEqDiff, Nat.reduceAdd, Nat.reduceMul, Nat.reduceSub, s1], by simp (disch := first | (simp only [go_sem, Bool.and_self, eq_self]; done) | omega) only [go_sem, ↓reduceIte, Nat.reduceEqDiff, Nat.reduceAdd, Nat.reduceMul, Nat.reduceSub, s6], v, by simp (disch := first | (simp only [go_sem, Bool.and_self, eq_self]; done) | omega) only [go_sem, ↓reduceIte, Nat.reduceEqDiff, Nat.reduceAdd, Nat.reduceMul, Nat.reduceSub, s5], by rw [he]; exact how⟩
    have kk := fun h h' K => k15 (h := h) (h' := h') (K := K) a p (nth p i) j f.okA (fun i hi => by rw [f.row i hi]; exact hjl) f.same (fun r hr => by rw [f.crow r hr, hcr]; exact Nat.le_refl _) (by omega) (by omega)
    cases ho : opensB a p (nth p i) j with
    | false =>
      have he : wrongRow a p i (j + 1) = wrongRow a p i j := by rw [wrongRow_succ, if_neg (fun h => by rw [ho] at h; cases h.2), List.append_nil]
      simp (disch := first | (simp only [go_sem, Bool.and_self, eq_self]; done) | omega) only [go_sem, ↓reduceIte, Nat.reduceEqDiff, Nat.reduceAdd, Nat.reduceMul, Nat.reduceSub, s7, s0, s1, s6, s5, hlt, hlp, hjt, hz, kk, ho]
      rw [ForK_normal]
      exact ⟨hjt, by simp (disch := first | (simp only [go_sem, Bool.and_self, eq_self]; done) | omega) only [go_sem, ↓reduceIte, Nat.reduceEqDiff, Nat.reduceAdd, Nat.reduceMul, Nat.reduceSub, s7], by simp (disch := first | (simp only [go_sem, Bool.and_self, eq_self]; done) | omega) only [go_sem, ↓reduceIte, Nat.reduceEqDiff, Nat.reduceAdd, Nat.reduceMul, Nat.reduceSub, s0], by simp (disch := first | (simp only [go_sem, Bool.and_self, eq_self]; done) | omega) only [go_sem, ↓reduceIte, Nat.reduceEqDiff, Nat.reduceAdd, Nat.reduceMul, Nat.reduceSub, s1], by simp (disch := first | (simp only [go_sem, Bool.and_self, eq_self]; done) | omega) only [go_sem, ↓reduceIte, Nat.reduceEqDiff, Nat.reduceAdd, Nat.reduceMul, Nat.reduceSub, s6], v, by simp (disch := first | (simp only [go_sem, Bool.and_self, eq_self]; done) | omega) only [go_sem, ↓reduceIte, Nat.reduceEqDiff, Nat.reduceAdd, Nat.reduceMul, Nat.reduceSub, s5], by rw [he]; exact how⟩
    | true =>
      have he : wrongRow a p i (j + 1) = wrongRow a p i j ++ [((i : Int), (j : Int))] := by rw [wrongRow_succ, if_pos ⟨hz, ho⟩]
      have hbs := bsB_pair (P := Try.prog) (h := h) 23 (i : Int) (j : Int) 0 0 isz23 izero23
      have happ := app_pair (P := Try.prog) how 23 16 (.agg [I 0, I 0]) (i : Int) (j : Int) isz23 ibytes23 izero23 rfl (by rw [List.length_append]; omega) (by rw [List.length_append]; omega)
      simp (disch := first | (simp only [go_sem, Bool.and_self, eq_self]; done) | omega) only [go_sem, ↓reduceIte, Nat.reduceEqDiff, Nat.reduceAdd, Nat.reduceMul, Nat.reduceSub, s7, s0, s1, s6, s5, hlt, hlp, hjt, hz, kk, ho, build_arr2, hbs, happ]
      rw [ForK_normal]
      refine ⟨hjt, by simp (disch := first | (simp only [go_sem, Bool.and_self, eq_self]; done) | omega) only [go_sem, ↓reduceIte, Nat.reduceEqDiff, Nat.reduceAdd, Nat.reduceMul, Nat.reduceSub, s7], by simp (disch := first | (simp only [go_sem, Bool.and_self, eq_self]; done) | omega) only [go_sem, ↓reduceIte, Nat.reduceEqDiff, Nat.reduceAdd, Nat.reduceMul, Nat.reduceSub, s0], by simp (disch := first | (simp only [go_sem, Bool.and_self, eq_self]; done) | omega) only [go_sem, ↓reduceIte, Nat.reduceEqDiff, Nat.reduceAdd, Nat.reduceMul, Nat.reduceSub, s1], by simp (disch := first | (simp only [go_sem, Bool.and_self, eq_self]; done) | omega) only [go_sem, ↓reduceIte, Nat.reduceEqDiff, Nat.reduceAdd, Nat.reduceMul, Nat.reduceSub, s6], _, by simp (disch := first | (simp only [go_sem, Bool.and_self, eq_self]; done) | omega) only [go_sem, ↓reduceIte, Nat.reduceEqDiff, Nat.reduceAdd, Nat.reduceMul, Nat.reduceSub]; rfl, ?_⟩
      rw [he, ← List.append_assoc]
      exact Own.app _ _ _
  rintro st h ⟨s0, s1, s6, v, s5, how⟩
  simp (disch := first | (simp only [go_sem, Bool.and_self, eq_self]; done) | omega) only [go_sem, ↓reduceIte, Nat.reduceEqDiff, Nat.reduceAdd, Nat.reduceMul, Nat.reduceSub, s6]
  rw [ForK_normal]
  exact ⟨hlt, by simp (disch := first | (simp only [go_sem, Bool.and_self, eq_self]; done) | omega) only [go_sem, ↓reduceIte, Nat.reduceEqDiff, Nat.reduceAdd, Nat.reduceMul, Nat.reduceSub, s6], by simp (disch := first | (simp only [go_sem, Bool.and_self, eq_self]; done) | omega) only [go_sem, ↓reduceIte, Nat.reduceEqDiff, Nat.reduceAdd, Nat.reduceMul, Nat.reduceSub, s0], by simp (disch := first | (simp only [go_sem, Bool.and_self, eq_self]; done) | omega) only [go_sem, ↓reduceIte, Nat.reduceEqDiff, Nat.reduceAdd, Nat.reduceMul, Nat.reduceSub, s1], v, by simp (disch := first | (simp only [go_sem, Bool.and_self, eq_self]; done) | omega) only [go_sem, ↓reduceIte, Nat.reduceEqDiff, Nat.reduceAdd, Nat.reduceMul, Nat.reduceSub, s5], how⟩
theorem k24 {a p : List (List Int)} {d : Int} (f : Fit a p d) : ConW Try.prog cfg 24 h (some ([LLI a, LLI p], h')) K = K (LP (wrongL a p a.length)) h' := by
  rw [ConW_any (f24_con f) rfl]; rfl

theorem f28_con {a cuts : List (List Int)} {d : Int} (f : Fit a cuts d) {lk : Nat} (hlk : lk < (nth a 0).length) : Con Try.prog cfg 28 [LLI a, LLI cuts, I d, I lk] (I (strangersB a cuts d lk)) := by
  have hk := f.keys
  have hs := f.same
  have hlo := f.locks
  have hch := f.cham
  have hd := f.depth
  refine Con_intro Try.func28 rfl ok28 (Nat.le_of_ble_eq_true rfl) rfl ?_
  simp only [Try.f28, Option.getD_some, initSt4]
  simp (disch := first | (simp only [go_sem, Bool.and_self, eq_self]; done) | omega) only [go_sem, ↓reduceIte, Nat.reduceEqDiff, Nat.reduceAdd, Nat.reduceMul, Nat.reduceSub]
  refine WP_for 10 (nth cuts 0).length (fun i st h => st 0 = LLI a ∧ st 1 = LLI cuts ∧ st 2 = I d ∧ st 3 = I lk ∧ st 9 = I (prodN (fun c => cntB a cuts lk c d.toNat) i)) (by simp (disch := first | (simp only [go_sem, Bool.and_self, eq_self]; done) | omega) only [go_sem, ↓reduceIte, Nat.reduceEqDiff, Nat.reduceAdd, Nat.reduceMul, Nat.reduceSub]) ⟨by simp (disch := first | (simp only [go_sem, Bool.and_self, eq_self]; done) | omega) only [go_sem, ↓reduceIte, Nat.reduceEqDiff, Nat.reduceAdd, Nat.reduceMul, Nat.reduceSub], by simp (disch := first | (simp only [go_sem, Bool.and_self, eq_self]; done) | omega) only [go_sem, ↓reduceIte, Nat.reduceEqDiff, Nat.reduceAdd, Nat.reduceMul, Nat.reduceSub], by simp (disch := first | (simp only [go_sem, Bool.and_self, eq_self]; done) | omega) only [go_sem, ↓reduceIte, Nat.reduceEqDiff, Nat.reduceAdd, Nat.reduceMul, Nat.reduceSub], by simp (disch := first | (simp only [go_sem, Bool.and_self, eq_self]; done) | omega) only [go_sem, ↓reduceIte, Nat.reduceEqDiff, Nat.reduceAdd, Nat.reduceMul, Nat.reduceSub], by simp (disch := first | (simp only [go_sem, Bool.and_self, eq_self]; done) | omega) only [go_sem, ↓reduceIte, Nat.reduceEqDiff, Nat.reduceAdd, Nat.reduceMul, Nat.reduceSub]; rfl⟩ ?_
  rintro i st h hi s10 ⟨s0, s1, s2, s3, s9⟩
  by_cases hlt : i < (nth cuts 0).length
  case neg =>
    have hik : i = (nth cuts 0).length := by omega
    simp (disch := first | (simp only [go_sem, Bool.and_self, eq_self]; done) | omega) only [go_sem, ↓reduceIte, Nat.reduceEqDiff, Nat.reduceAdd, Nat.reduceMul, Nat.reduceSub, s10, s0, s1, s2, s3, s9, hlt]
    rw [hik]; rfl
  simp (disch := first | (simp only [go_sem, Bool.and_self, eq_self]; done) | omega) only [go_sem, ↓reduceIte, Nat.reduceEqDiff, Nat.reduceAdd, Nat.reduceMul, Nat.reduceSub, s10, s0, s1, s2, s3, s9, hlt]
  refine WP_cut (fun st h => st 0 = LLI a ∧ st 1 = LLI cuts ∧ st 2 = I d ∧ st 3 = I lk ∧ st 9 = I (prodN (fun c => cntB a cuts lk c d.toNat) i) ∧ st 10 = I i ∧ st 11 = I (cntB a cuts lk i d.toNat)) ?_ ?_
  · refine WP_for1 12 d.toNat (fun x st h => st 0 = LLI a ∧ st 1 = LLI cuts ∧ st 2 = I d ∧ st 3 = I lk ∧ st 9 = I (prodN (fun c => cntB a cuts lk c d.toNat) i) ∧ st 10 = I i ∧ st 11 = I (cntB a cuts lk i x))
      (by simp (disch := first | (simp only [go_sem, Bool.and_self, eq_self]; done) | omega) only [go_sem, ↓reduceIte, Nat.reduceEqDiff, Nat.reduceAdd, Nat.reduceMul, Nat.reduceSub]) ⟨by simp (disch := first | (simp only [go_sem, Bool.and_self, eq_self]; done) | omega) only [go_sem, ↓reduceIte, Nat.reduceEqDiff, Nat.reduceAdd, Nat.reduceMul, Nat.reduceSub, s0], by simp (disch := first | (simp only [go_sem, Bool.and_self, eq_self]; done) | omega) only [go_sem, ↓reduceIte, Nat.reduceEqDiff, Nat.reduceAdd, Nat.reduceMul, Nat.reduceSub, s1], by simp (disch := first | (simp only [go_sem, Bool.and_self, eq_self]; done) | omega) only [go_sem, ↓reduceIte, Nat.reduceEqDiff, Nat.reduceAdd, Nat.reduceMul, Nat.reduceSub, s2], by simp (disch := first | (simp only [go_sem, Bool.and_self, eq_self]; done) | omega) only [go_sem, ↓reduceIte, Nat.reduceEqDiff, Nat.reduceAdd, Nat.reduceMul, Nat.reduceSub, s3], by simp (disch := first | (simp only [go_sem, Bool.and_self, eq_self]; done) | omega) only [go_sem, ↓reduceIte, Nat.reduceEqDiff, Nat.reduceAdd, Nat.reduceMul, Nat.reduceSub, s9], by simp (disch := first | (simp only [go_sem, Bool.and_self, eq_self]; done) | omega) only [go_sem, ↓reduceIte, Nat.reduceEqDiff, Nat.reduceAdd, Nat.reduceMul, Nat.reduceSub, s10], by simp (disch := first | (simp only [go_sem, Bool.and_self, eq_self]; done) | omega) only [go_sem, ↓reduceIte, Nat.reduceEqDiff, Nat.reduceAdd, Nat.reduceMul, Nat.reduceSub]; rfl⟩ ?_
    rintro x st h hx s12 ⟨s0, s1, s2, s3, s9, s10, s11⟩
    by_cases hxd : (x : Int) + 1 ≤ d
    case neg =>
      have : x = d.toNat := by omega
      simp (disch := first | (simp only [go_sem, Bool.and_self, eq_self]; done) | omega) only [go_sem, ↓reduceIte, Nat.reduceEqDiff, Nat.reduceAdd, Nat.reduceMul, Nat.reduceSub, s0, s1, s2, s3, s9, s10, s11, s12, hxd]
      rw [this]
    have hcb := cntB_bounds a cuts lk i x
    have kk := fun h h' K => k36 (h := h) (h' := h') (K := K) a cuts lk i ((x : Int) + 1) f.okA (fun r hr => by rw [f.row r hr]; exact hlk) f.same (fun r hr => by rw [f.crow r hr]; exact hlt) (by omega) (by omega)
    have hcs : cntB a cuts lk i (x + 1) = cntB a cuts lk i x + (if pinB a cuts lk i ((x : Int) + 1) then 1 else 0) := rfl
    cases hp : pinB a cuts lk i ((x : Int) + 1) with
    | false =>
      simp (disch := first | (simp only [go_sem, Bool.and_self, eq_self]; done) | omega) only [go_sem, ↓reduceIte, Nat.reduceEqDiff, Nat.reduceAdd, Nat.reduceMul, Nat.reduceSub, s0, s1, s2, s3, s9, s10, s11, s12, hxd, kk, hp]
      rw [For1K_normal]
      exact ⟨by omega, by simp (disch := first | (simp only [go_sem, Bool.and_self, eq_self]; done) | omega) only [go_sem, ↓reduceIte, Nat.reduceEqDiff, Nat.reduceAdd, Nat.reduceMul, Nat.reduceSub, s12], by simp (disch := first | (simp only [go_sem, Bool.and_self, eq_self]; done) | omega) only [go_sem, ↓reduceIte, Nat.reduceEqDiff, Nat.reduceAdd, Nat.reduceMul, Nat.reduceSub, s0], by simp (disch := first | (simp only [go_sem, Bool.and_self, eq_self]; done) | omega) only [go_sem, ↓reduceIte, Nat.reduceEqDiff, Nat.reduceAdd, Nat.reduceMul, Nat.reduceSub, s1], by simp (disch := first | (simp only [go_sem, Bool.and_self, eq_self]; done) | omega) only [go_sem, ↓reduceIte, Nat.reduceEqDiff, Nat.reduceAdd, Nat.reduceMul, Nat.reduceSub, s2], by simp (disch := first | (simp only [go_sem, Bool.and_self, eq_self]; done) | omega) only [go_sem, ↓reduceIte, Nat.reduceEqDiff, Nat.reduceAdd, Nat.reduceMul, Nat.reduceSub, s3], by simp (disch := first | (simp only [go_sem, Bool.and_self, eq_self]; done) | omega) only [go_sem, ↓reduceIte, Nat.reduceEqDiff, Nat.reduceAdd, Nat.reduceMul, Nat.reduceSub, s9], by simp (disch := first | (simp only [go_sem, Bool.and_self, eq_self]; done) | omega) only [go_sem, ↓reduceIte, Nat.reduceEqDiff, Nat.reduceAdd, Nat.reduceMul, Nat.reduceSub, s10], by simp (disch := first | (simp only [go_sem, Bool.and_self, eq_self]; done) | omega) only [go_sem, ↓reduceIte, Nat.reduceEqDiff, Nat.reduceAdd, Nat.reduceMul, Nat.reduceSub, s11, hcs, hp, Int.add_zero]⟩
    | true =>
      simp (disch := first | (simp only [go_sem, Bool.and_self, eq_self]; done) | omega) only [go_sem, ↓reduceIte, Nat.reduceEqDiff, Nat.reduceAdd, Nat.reduceMul, Nat.reduceSub, s0, s1, s2, s3, s9, s10, s11, s12, hxd, kk, hp]
      rw [For1K_normal]
      exact ⟨by omega, by simp (disch := first | (simp only [go_sem, Bool.and_self, eq_self]; done) | omega) only [go_sem, ↓reduceIte, Nat.reduceEqDiff, Nat.reduceAdd, Nat.reduceMul, Nat.reduceSub, s12], by simp (disch := first | (simp only [go_sem, Bool.and_self, eq_self]; done) | omega) only [go_sem, ↓reduceIte, Nat.reduceEqDiff, Nat.reduceAdd, Nat.reduceMul, Nat.reduceSub, s0], by simp (disch := first | (simp only [go_sem, Bool.and_self, eq_self]; done) | omega) only [go_sem, ↓reduceIte, Nat.reduceEqDiff, Nat.reduceAdd, Nat.reduceMul, Nat.reduceSub, s1], by simp (disch := first | (simp only [go_sem, Bool.and_self, eq_self]; done) | omega) only [go_sem, ↓reduceIte, Nat.reduceEqDiff, Nat.reduceAdd, Nat.reduceMul, Nat.reduceSub, s2], by simp (disch := first | (simp only [go_sem, Bool.and_self, eq_self]; done) | omega) only [go_sem, ↓reduceIte, Nat.reduceEqDiff, Nat.reduceAdd, Nat.reduceMul, Nat.reduceSub, s3], by simp (disch := first | (simp only [go_sem, Bool.and_self, eq_self]; done) | omega) only [go_sem, ↓reduceIte, Nat.reduceEqDiff, Nat.reduceAdd, Nat.reduceMul, Nat.reduceSub, s9], by simp (disch := first | (simp only [go_sem, Bool.and_self, eq_self]; done) | omega) only [go_sem, ↓reduceIte, Nat.reduceEqDiff, Nat.reduceAdd, Nat.reduceMul, Nat.reduceSub, s10], by simp (disch := first | (simp only [go_sem, Bool.and_self, eq_self]; done) | omega) only [go_sem, ↓reduceIte, Nat.reduceEqDiff, Nat.reduceAdd, Nat.reduceMul, Nat.reduceSub, hcs, hp]⟩
  rintro st h ⟨s0, s1, s2, s3, s9, s10, s11⟩
  have hb1' := prodN_bounds (f := fun c => cntB a cuts lk c d.toNat) (n := i + 1) (by omega) fun c _ => by have := cntB_bounds a cuts lk c d.toNat; omega
  have hb2' := pow4_le (n := i + 1) (by omega)
  rw [prodN] at hb1'
  simp (disch := first | (simp only [go_sem, Bool.and_self, eq_self]; done) | omega) only [go_sem, ↓reduceIte, Nat.reduceEqDiff, Nat.reduceAdd, Nat.reduceMul, Nat.reduceSub, s0, s1, s2, s3, s9, s10, s11]
  rw [ForK_normal]
  exact ⟨hlt, by simp (disch := first | (simp only [go_sem, Bool.and_self, eq_self]; done) | omega) only [go_sem, ↓reduceIte, Nat.reduceEqDiff, Nat.reduceAdd, Nat.reduceMul, Nat.reduceSub, s10], by simp (disch := first | (simp only [go_sem, Bool.and_self, eq_self]; done) | omega) only [go_sem, ↓reduceIte, Nat.reduceEqDiff, Nat.reduceAdd, Nat.reduceMul, Nat.reduceSub, s0], by simp (disch := first | (simp only [go_sem, Bool.and_self, eq_self]; done) | omega) only [go_sem, ↓reduceIte, Nat.reduceEqDiff, Nat.reduceAdd, Nat.reduceMul, Nat.reduceSub, s1], by simp (disch := first | (simp only [go_sem, Bool.and_self, eq_self]; done) | omega) only [go_sem, ↓reduceIte, Nat.reduceEqDiff, Nat.reduceAdd, Nat.reduceMul, Nat.reduceSub, s2], by simp (disch := first | (simp only [go_sem, Bool.and_self, eq_self]; done) | omega) only [go_sem, ↓reduceIte, Nat.reduceEqDiff, Nat.reduceAdd, Nat.reduceMul, Nat.reduceSub, s3], by simp (disch := first | (simp only [go_sem, Bool.and_self, eq_self]; done) | omega) only [go_sem, ↓reduceIte, Nat.reduceEqDiff, Nat.reduceAdd, Nat.reduceMul, Nat.reduceSub]; rfl⟩
theorem k28 {a cuts : List (List Int)} {d : Int} (f : Fit a cuts d) {lk : Nat} (hlk : lk < (nth a 0).length) : ConW Try.prog cfg 28 h (some ([LLI a, LLI cuts, I d, I lk], h')) K = K (I (strangersB a cuts d lk)) h := ConW_num (f28_con f hlk) rfl
end Go.Proofs.Ytkjdnnedncomgaa
