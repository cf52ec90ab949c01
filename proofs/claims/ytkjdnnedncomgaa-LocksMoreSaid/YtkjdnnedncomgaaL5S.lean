/-
  'table': a copy of any list of lists.
-/
import Derived.Test.YtkjdnnedncomgaaL5Q
set_option linter.unusedVariables false
set_option linter.unusedSimpArgs false
set_option maxRecDepth 10000
namespace Go.Proofs.Ytkjdnnedncomgaa
open Go Go.Am

variable {h h' : Hp} {K : AV → Hp → Prop}

def tableRow (a : List (List Int)) (i : Nat) : List Int := (nth a i).take (min (nth a i).length 8)
def tableM (a : List (List Int)) : List (List Int) := (List.range (min a.length 8)).map (tableRow a)

theorem f19_con (a : List (List Int)) (ha : okLL a) : Con Try.prog cfg 19 [LLI a] (LLI (tableM a)) := by
  have hlen := ha.1
  refine Con_intro Try.func19 rfl ok19 (Nat.le_of_ble_eq_true rfl) rfl ?_
  simp only [Try.f19, Option.getD_some, initSt1]
  simp (disch := first | (simp only [go_sem, Bool.and_self, eq_self]; done) | omega | (simp only [List.length_cons, List.length_nil]; omega)) only [go_sem, ↓reduceIte, Nat.reduceEqDiff, Nat.reduceAdd, Nat.reduceMul, Nat.reduceSub, Int.reduceToNat]
  refine WP_for 4 (min a.length 8) (fun i st h => st 0 = LLI a ∧ ∃ v, st 3 = v ∧ Own (e1 LI) 1 h v ((List.range i).map (tableRow a))) (by simp (disch := first | (simp only [go_sem, Bool.and_self, eq_self]; done) | omega | (simp only [List.length_cons, List.length_nil]; omega)) only [go_sem, ↓reduceIte, Nat.reduceEqDiff, Nat.reduceAdd, Nat.reduceMul, Nat.reduceSub, Int.reduceToNat]) ⟨by simp (disch := first | (simp only [go_sem, Bool.and_self, eq_self]; done) | omega | (simp only [List.length_cons, List.length_nil]; omega)) only [go_sem, ↓reduceIte, Nat.reduceEqDiff, Nat.reduceAdd, Nat.reduceMul, Nat.reduceSub, Int.reduceToNat], .nil, by simp (disch := first | (simp only [go_sem, Bool.and_self, eq_self]; done) | omega | (simp only [List.length_cons, List.length_nil]; omega)) only [go_sem, ↓reduceIte, Nat.reduceEqDiff, Nat.reduceAdd, Nat.reduceMul, Nat.reduceSub, Int.reduceToNat], .inl ⟨rfl, rfl⟩⟩ ?_
  rintro i st h hi s4 ⟨s0, v, s3, how⟩
  by_cases hlt : i < a.length
  case neg =>
    have hie : i = min a.length 8 := by omega
    simp (disch := first | (simp only [go_sem, Bool.and_self, eq_self]; done) | omega | (simp only [List.length_cons, List.length_nil]; omega)) only [go_sem, ↓reduceIte, Nat.reduceEqDiff, Nat.reduceAdd, Nat.reduceMul, Nat.reduceSub, Int.reduceToNat, s4, s0, s3, hlt]
    rw [hie] at how
    exact export_Own (f := e1 LI) 22 how
  by_cases h8 : (i : Int) < 8
  case neg =>
    have hie : i = min a.length 8 := by omega
    simp (disch := first | (simp only [go_sem, Bool.and_self, eq_self]; done) | omega | (simp only [List.length_cons, List.length_nil]; omega)) only [go_sem, ↓reduceIte, Nat.reduceEqDiff, Nat.reduceAdd, Nat.reduceMul, Nat.reduceSub, Int.reduceToNat, s4, s0, s3, hlt, h8]
    rw [hie] at how
    exact export_Own (f := e1 LI) 22 how
  have hmin : min ((nth a i).length : Int) 8 = ((min (nth a i).length 8 : Nat) : Int) := by omega
  have htl : (tableRow a i).length = min (nth a i).length 8 := by rw [tableRow, List.length_take]; omega
  have hrow : (nth a i).take (min (nth a i).length 8) = tableRow a i := rfl
  have happ1 := app_nil (P := Try.prog) (h := h) (f := e1 I) 3 8 (I 0) (LI (tableRow a i)) (tableRow a i) isz3 ibytes3 izero3 rfl (cellsOf_L _ _) (lenA_L _ _) (by omega) (by omega)
  have hse : sealA (h.alloc (.cells false true ((tableRow a i).flatMap (e1 I)))) (.sl h.nx 0 (tableRow a i).length 1) = some (LI (tableRow a i), (h.alloc (.cells false true ((tableRow a i).flatMap (e1 I)))).put h.nx (some (.cells true true ((tableRow a i).flatMap (e1 I))))) := by
    simp (disch := first | (simp only [go_sem, Bool.and_self, eq_self]; done) | omega | (simp only [List.length_cons, List.length_nil]; omega)) only [go_sem, ↓reduceIte, Nat.reduceEqDiff, Nat.reduceAdd, Nat.reduceMul, Nat.reduceSub, Int.reduceToNat]
  have hbs := bsB_one (P := Try.prog) 27 _ (LI (tableRow a i)) .nil _ isz27 izero27 rfl rfl rfl hse rfl rfl (pure_L _)
  have how2 : Own (e1 LI) 1 ((h.alloc (.cells false true ((tableRow a i).flatMap (e1 I)))).put h.nx (some (.cells true true ((tableRow a i).flatMap (e1 I))))) v ((List.range i).map (tableRow a)) :=
    how.mono (by rw [put_nx, alloc_nx]; omega) fun q hq => by rw [put_bl, if_neg (by omega), alloc_bl, if_neg (by omega)]
  have happ := app_one (P := Try.prog) how2 27 24 .nil (tableRow a i) isz27 ibytes27 izero27 rfl (by simp; omega) (by simp; omega)
  simp (disch := first | (simp only [go_sem, Bool.and_self, eq_self]; done) | omega | (simp only [List.length_cons, List.length_nil]; omega)) only [go_sem, ↓reduceIte, Nat.reduceEqDiff, Nat.reduceAdd, Nat.reduceMul, Nat.reduceSub, Int.reduceToNat, s4, s0, s3, hlt, h8, hmin, hrow, happ1, hbs, happ]
  rw [ForK_normal]
  refine ⟨by omega, by simp (disch := first | (simp only [go_sem, Bool.and_self, eq_self]; done) | omega | (simp only [List.length_cons, List.length_nil]; omega)) only [go_sem, ↓reduceIte, Nat.reduceEqDiff, Nat.reduceAdd, Nat.reduceMul, Nat.reduceSub, Int.reduceToNat, s4], by simp (disch := first | (simp only [go_sem, Bool.and_self, eq_self]; done) | omega | (simp only [List.length_cons, List.length_nil]; omega)) only [go_sem, ↓reduceIte, Nat.reduceEqDiff, Nat.reduceAdd, Nat.reduceMul, Nat.reduceSub, Int.reduceToNat, s0], _, by simp (disch := first | (simp only [go_sem, Bool.and_self, eq_self]; done) | omega | (simp only [List.length_cons, List.length_nil]; omega)) only [go_sem, ↓reduceIte, Nat.reduceEqDiff, Nat.reduceAdd, Nat.reduceMul, Nat.reduceSub, Int.reduceToNat]; rfl, ?_⟩
  rw [← rows_snoc]
  exact Own.app _ _ _
theorem k19 (a : List (List Int)) (ha : okLL a) : ConW Try.prog cfg 19 h (some ([LLI a], h')) K = K (LLI (tableM a)) h' := by
  rw [ConW_any (f19_con a ha) rfl]; rfl
end Go.Proofs.Ytkjdnnedncomgaa
