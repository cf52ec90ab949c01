/-
  The plans and cuts that the statements make from any input.
-/
import Derived.Test.YtkjdnnedncomgaaL5D
set_option linter.unusedVariables false
set_option linter.unusedSimpArgs false
set_option maxRecDepth 10000
namespace Go.Proofs.Ytkjdnnedncomgaa
open Go Go.Am

variable {h h' : Hp} {K : AV → Hp → Prop}

/-- Any int, from 0 to n - 1. -/
def modI (x n : Int) : Int := x % 18446744073709551616 % n
theorem modI_bounds (x : Int) {n : Int} (hn : 0 < n) : 0 ≤ modI x n ∧ modI x n < n := ⟨Int.emod_nonneg _ (by omega), Int.emod_lt_of_pos _ hn⟩
theorem modI_wrap (x n : Int) : modI (IntKind.i64.wrap x) n = modI x n := by
  unfold modI
  congr 1
  rw [wrap_i64]; omega
theorem ok64_wrap (x : Int) : ok64 (IntKind.i64.wrap x) := by
  rw [wrap_i64]; unfold ok64; omega
theorem m12 (x n : Int) (hx : ok64 x) (h0 : 0 < n) (h1 : n ≤ 9223372036854775807) : ConW Try.prog cfg 12 h (some ([I x, I n], h')) K = K (I (modI x n)) h := k12 x n hx h0 h1

def okM (a : List (List Int)) : Prop := okLL a ∧ ∀ r ∈ a, ∀ x ∈ r, ok64 x
theorem okM.at {a : List (List Int)} (h : okM a) {i j : Nat} (hi : i < a.length) (hj : j < (nth a i).length) : ok64 (at2 a i j) := h.2 _ (nth_mem hi) _ (nth_mem hj)

def tameK (a : List (List Int)) (most : Int) : Int := 1 + modI (a.length - 1) most
def tameL (a : List (List Int)) : Int := if 0 < a.length then 1 + modI ((nth a 0).length - 1) 6 else 6
def tameN (a : List (List Int)) (i : Nat) : Nat := if i < a.length then min (tameL a).toNat (nth a i).length else 0
def tameRow (a : List (List Int)) (i : Nat) : List Int := fillR (tameL a).toNat (fun c => modI (at2 a i c) 2) 0 (tameN a i)
/-- What 'tame' returns. -/
def tameM (a : List (List Int)) (most : Int) : List (List Int) := (List.range (tameK a most).toNat).map (tameRow a)

theorem tameL_bounds (a : List (List Int)) : 1 ≤ tameL a ∧ tameL a ≤ 6 := by
  unfold tameL
  split
  · have := modI_bounds ((nth a 0).length - 1) (n := 6) (by omega); omega
  · omega
theorem tameK_bounds (a : List (List Int)) {most : Int} (hm : 1 ≤ most) : 1 ≤ tameK a most ∧ tameK a most ≤ most := by
  unfold tameK
  have := modI_bounds (a.length - 1) (n := most) (by omega); omega

theorem f11_con (a : List (List Int)) (ha : okM a) (most : Int) (hm : 1 ≤ most ∧ most ≤ 8) : Con Try.prog cfg 11 [LLI a, I most] (LLI (tameM a most)) := by
  have hlen := ha.1.1
  have hL := tameL_bounds a
  have hK := tameK_bounds a hm.1
  refine Con_intro Try.func11 rfl ok11 (Nat.le_of_ble_eq_true rfl) rfl ?_
  simp only [Try.f11, Option.getD_some, initSt2]
  have mk1 := fun h h' K => m12 (h := h) (h' := h') (K := K) ((a.length : Int) - 1) most (by unfold ok64; omega) (by omega) (by omega)
  have hk1 : 1 + modI ((a.length : Int) - 1) most = tameK a most := rfl
  simp (disch := first | (simp only [go_sem, Bool.and_self, eq_self]; done) | omega | (simp only [List.length_cons, List.length_nil]; omega)) only [go_sem, ↓reduceIte, Nat.reduceEqDiff, Nat.reduceAdd, Nat.reduceMul, Nat.reduceSub, Int.reduceToNat, mk1, hk1]
  refine condW_join (fun st h => st 0 = LLI a ∧ st 5 = I (tameK a most) ∧ st 6 = I (tameL a) ∧ h = Hp.empty) (fun hz => ?_) (fun hz => ?_) ?_
  · have hl1 : 1 + modI (((nth a 0).length : Int) - 1) 6 = tameL a := by simp only [tameL]; rw [if_pos (by omega)]
    have hr0 := ha.1.row (show 0 < a.length by omega)
    have mk2 := fun h h' K => m12 (h := h) (h' := h') (K := K) (((nth a 0).length : Int) - 1) 6 (by unfold ok64; omega) (by omega) (by omega)
    simp (disch := first | (simp only [go_sem, Bool.and_self, eq_self]; done) | omega | (simp only [List.length_cons, List.length_nil]; omega)) only [go_sem, ↓reduceIte, Nat.reduceEqDiff, Nat.reduceAdd, Nat.reduceMul, Nat.reduceSub, Int.reduceToNat, mk2, hl1]
  · have hl1 : tameL a = 6 := by simp only [tameL]; rw [if_neg (by omega)]
    simp (disch := first | (simp only [go_sem, Bool.and_self, eq_self]; done) | omega | (simp only [List.length_cons, List.length_nil]; omega)) only [go_sem, ↓reduceIte, Nat.reduceEqDiff, Nat.reduceAdd, Nat.reduceMul, Nat.reduceSub, Int.reduceToNat, hl1]
  rintro st h ⟨s0, s5, s6, rfl⟩
  simp (disch := first | (simp only [go_sem, Bool.and_self, eq_self]; done) | omega | (simp only [List.length_cons, List.length_nil]; omega)) only [go_sem, ↓reduceIte, Nat.reduceEqDiff, Nat.reduceAdd, Nat.reduceMul, Nat.reduceSub, Int.reduceToNat, s0, s5, s6]
  refine WP_for 8 (tameK a most).toNat (fun i st h => st 0 = LLI a ∧ st 5 = I (tameK a most) ∧ st 6 = I (tameL a) ∧ ∃ v, st 7 = v ∧ Own (e1 LI) 1 h v ((List.range i).map (tameRow a)))
    (by simp (disch := first | (simp only [go_sem, Bool.and_self, eq_self]; done) | omega | (simp only [List.length_cons, List.length_nil]; omega)) only [go_sem, ↓reduceIte, Nat.reduceEqDiff, Nat.reduceAdd, Nat.reduceMul, Nat.reduceSub, Int.reduceToNat]) ⟨by simp (disch := first | (simp only [go_sem, Bool.and_self, eq_self]; done) | omega | (simp only [List.length_cons, List.length_nil]; omega)) only [go_sem, ↓reduceIte, Nat.reduceEqDiff, Nat.reduceAdd, Nat.reduceMul, Nat.reduceSub, Int.reduceToNat, s0], by simp (disch := first | (simp only [go_sem, Bool.and_self, eq_self]; done) | omega | (simp only [List.length_cons, List.length_nil]; omega)) only [go_sem, ↓reduceIte, Nat.reduceEqDiff, Nat.reduceAdd, Nat.reduceMul, Nat.reduceSub, Int.reduceToNat, s5], by simp (disch := first | (simp only [go_sem, Bool.and_self, eq_self]; done) | omega | (simp only [List.length_cons, List.length_nil]; omega)) only [go_sem, ↓reduceIte, Nat.reduceEqDiff, Nat.reduceAdd, Nat.reduceMul, Nat.reduceSub, Int.reduceToNat, s6], .nil, by simp (disch := first | (simp only [go_sem, Bool.and_self, eq_self]; done) | omega | (simp only [List.length_cons, List.length_nil]; omega)) only [go_sem, ↓reduceIte, Nat.reduceEqDiff, Nat.reduceAdd, Nat.reduceMul, Nat.reduceSub, Int.reduceToNat], .inl ⟨rfl, rfl⟩⟩ ?_
  rintro i st h hi s8 ⟨s0, s5, s6, v, s7, how⟩
  by_cases hlt : (i : Int) < tameK a most
  case neg =>
    have hik : i = (tameK a most).toNat := by omega
    simp (disch := first | (simp only [go_sem, Bool.and_self, eq_self]; done) | omega | (simp only [List.length_cons, List.length_nil]; omega)) only [go_sem, ↓reduceIte, Nat.reduceEqDiff, Nat.reduceAdd, Nat.reduceMul, Nat.reduceSub, Int.reduceToNat, s8, s0, s5, s6, s7, hlt]
    rw [hik] at how
    exact export_Own (f := e1 LI) 22 how
  have hmk := fun h => makeB_int (P := Try.prog) (h := h) 3 (tameL a) isz3 ibytes3 izero3 (by omega) (by omega)
  simp (disch := first | (simp only [go_sem, Bool.and_self, eq_self]; done) | omega | (simp only [List.length_cons, List.length_nil]; omega)) only [go_sem, ↓reduceIte, Nat.reduceEqDiff, Nat.reduceAdd, Nat.reduceMul, Nat.reduceSub, Int.reduceToNat, s8, s0, s5, s6, s7, hlt, hmk]
  have hilt : i < (tameK a most).toNat := by omega
  refine WP_cut (fun st g => st 0 = LLI a ∧ st 5 = I (tameK a most) ∧ st 6 = I (tameL a) ∧ st 7 = v ∧ st 8 = I i ∧ st 9 = .sl h.nx 0 (tameL a).toNat 1 ∧ g.nx = h.nx + 1 ∧ (∀ q, q < h.nx → g.bl q = h.bl q) ∧ g.bl h.nx = some (.cells false true ((tameRow a i).flatMap (e1 I)))) ?_ ?_
  · refine WP_for 10 (tameN a i) (fun j st g => st 0 = LLI a ∧ st 5 = I (tameK a most) ∧ st 6 = I (tameL a) ∧ st 7 = v ∧ st 8 = I i ∧ st 9 = .sl h.nx 0 (tameL a).toNat 1 ∧ g.nx = h.nx + 1 ∧ (∀ q, q < h.nx → g.bl q = h.bl q) ∧ g.bl h.nx = some (.cells false true ((fillR (tameL a).toNat (fun c => modI (at2 a i c) 2) 0 j).flatMap (e1 I))))
      (by simp (disch := first | (simp only [go_sem, Bool.and_self, eq_self]; done) | omega | (simp only [List.length_cons, List.length_nil]; omega)) only [go_sem, ↓reduceIte, Nat.reduceEqDiff, Nat.reduceAdd, Nat.reduceMul, Nat.reduceSub, Int.reduceToNat]) ⟨by simp (disch := first | (simp only [go_sem, Bool.and_self, eq_self]; done) | omega | (simp only [List.length_cons, List.length_nil]; omega)) only [go_sem, ↓reduceIte, Nat.reduceEqDiff, Nat.reduceAdd, Nat.reduceMul, Nat.reduceSub, Int.reduceToNat, s0], by simp (disch := first | (simp only [go_sem, Bool.and_self, eq_self]; done) | omega | (simp only [List.length_cons, List.length_nil]; omega)) only [go_sem, ↓reduceIte, Nat.reduceEqDiff, Nat.reduceAdd, Nat.reduceMul, Nat.reduceSub, Int.reduceToNat, s5], by simp (disch := first | (simp only [go_sem, Bool.and_self, eq_self]; done) | omega | (simp only [List.length_cons, List.length_nil]; omega)) only [go_sem, ↓reduceIte, Nat.reduceEqDiff, Nat.reduceAdd, Nat.reduceMul, Nat.reduceSub, Int.reduceToNat, s6], by simp (disch := first | (simp only [go_sem, Bool.and_self, eq_self]; done) | omega | (simp only [List.length_cons, List.length_nil]; omega)) only [go_sem, ↓reduceIte, Nat.reduceEqDiff, Nat.reduceAdd, Nat.reduceMul, Nat.reduceSub, Int.reduceToNat, s7], by simp (disch := first | (simp only [go_sem, Bool.and_self, eq_self]; done) | omega | (simp only [List.length_cons, List.length_nil]; omega)) only [go_sem, ↓reduceIte, Nat.reduceEqDiff, Nat.reduceAdd, Nat.reduceMul, Nat.reduceSub, Int.reduceToNat, s8], by simp (disch := first | (simp only [go_sem, Bool.and_self, eq_self]; done) | omega | (simp only [List.length_cons, List.length_nil]; omega)) only [go_sem, ↓reduceIte, Nat.reduceEqDiff, Nat.reduceAdd, Nat.reduceMul, Nat.reduceSub, Int.reduceToNat], by simp (disch := first | (simp only [go_sem, Bool.and_self, eq_self]; done) | omega | (simp only [List.length_cons, List.length_nil]; omega)) only [go_sem, ↓reduceIte, Nat.reduceEqDiff, Nat.reduceAdd, Nat.reduceMul, Nat.reduceSub, Int.reduceToNat], fun q hq => by simp (disch := first | (simp only [go_sem, Bool.and_self, eq_self]; done) | omega | (simp only [List.length_cons, List.length_nil]; omega)) only [go_sem, ↓reduceIte, Nat.reduceEqDiff, Nat.reduceAdd, Nat.reduceMul, Nat.reduceSub, Int.reduceToNat, Nat.ne_of_lt hq], by simp (disch := first | (simp only [go_sem, Bool.and_self, eq_self]; done) | omega | (simp only [List.length_cons, List.length_nil]; omega)) only [go_sem, ↓reduceIte, Nat.reduceEqDiff, Nat.reduceAdd, Nat.reduceMul, Nat.reduceSub, Int.reduceToNat, fillR_zero]⟩ ?_
    rintro j st g hj s10 ⟨s0, s5, s6, s7, s8, s9, gnx, gfr, gbl⟩
    by_cases hjt : j < tameN a i
    case neg =>
      have hjn : j = tameN a i := by omega
      by_cases c1 : (j : Int) < tameL a
      case neg =>
        simp (disch := first | (simp only [go_sem, Bool.and_self, eq_self]; done) | omega | (simp only [List.length_cons, List.length_nil]; omega)) only [go_sem, ↓reduceIte, Nat.reduceEqDiff, Nat.reduceAdd, Nat.reduceMul, Nat.reduceSub, Int.reduceToNat, s10, s0, s5, s6, s7, s8, s9, c1, gnx, gbl]
        refine ⟨gfr, ?_⟩
        rw [hjn]; rfl
      by_cases c2 : i < a.length
      case neg =>
        simp (disch := first | (simp only [go_sem, Bool.and_self, eq_self]; done) | omega | (simp only [List.length_cons, List.length_nil]; omega)) only [go_sem, ↓reduceIte, Nat.reduceEqDiff, Nat.reduceAdd, Nat.reduceMul, Nat.reduceSub, Int.reduceToNat, s10, s0, s5, s6, s7, s8, s9, c1, c2, gnx, gbl]
        refine ⟨gfr, ?_⟩
        rw [hjn]; rfl
      have c3 : ¬ j < (nth a i).length := by
        unfold tameN at hjn; rw [if_pos c2] at hjn; omega
      simp (disch := first | (simp only [go_sem, Bool.and_self, eq_self]; done) | omega | (simp only [List.length_cons, List.length_nil]; omega)) only [go_sem, ↓reduceIte, Nat.reduceEqDiff, Nat.reduceAdd, Nat.reduceMul, Nat.reduceSub, Int.reduceToNat, s10, s0, s5, s6, s7, s8, s9, c1, c2, c3, gnx, gbl]
      refine ⟨gfr, ?_⟩
      rw [hjn]; rfl
    have hia : i < a.length := by
      unfold tameN at hjt; split at hjt
      · assumption
      · omega
    have hjl : j < (tameL a).toNat ∧ j < (nth a i).length := by
      unfold tameN at hjt; rw [if_pos hia] at hjt; omega
    have hjl1 : (j : Int) < tameL a := by omega
    have hjl2 := hjl.2
    have mk3 := fun h h' K => m12 (h := h) (h' := h') (K := K) (at2 a i j) 2 (ha.at hia hjl2) (by omega) (by omega)
    have hfl := fillR_len (tameL a).toNat (fun c => modI (at2 a i c) 2) 0 j
    have hset := fillR_set (f := fun c => modI (at2 a i c) 2) (z := (0 : Int)) hjl.1
    simp (disch := first | (simp only [go_sem, Bool.and_self, eq_self]; done) | omega | (simp only [List.length_cons, List.length_nil]; omega)) only [go_sem, ↓reduceIte, Nat.reduceEqDiff, Nat.reduceAdd, Nat.reduceMul, Nat.reduceSub, Int.reduceToNat, s10, s0, s5, s6, s7, s8, s9, hjl1, hjl2, hia, mk3, gbl, hset]
    rw [ForK_normal]
    refine ⟨hjt, by simp (disch := first | (simp only [go_sem, Bool.and_self, eq_self]; done) | omega | (simp only [List.length_cons, List.length_nil]; omega)) only [go_sem, ↓reduceIte, Nat.reduceEqDiff, Nat.reduceAdd, Nat.reduceMul, Nat.reduceSub, Int.reduceToNat, s10], by simp (disch := first | (simp only [go_sem, Bool.and_self, eq_self]; done) | omega | (simp only [List.length_cons, List.length_nil]; omega)) only [go_sem, ↓reduceIte, Nat.reduceEqDiff, Nat.reduceAdd, Nat.reduceMul, Nat.reduceSub, Int.reduceToNat, s0], by simp (disch := first | (simp only [go_sem, Bool.and_self, eq_self]; done) | omega | (simp only [List.length_cons, List.length_nil]; omega)) only [go_sem, ↓reduceIte, Nat.reduceEqDiff, Nat.reduceAdd, Nat.reduceMul, Nat.reduceSub, Int.reduceToNat, s5], by simp (disch := first | (simp only [go_sem, Bool.and_self, eq_self]; done) | omega | (simp only [List.length_cons, List.length_nil]; omega)) only [go_sem, ↓reduceIte, Nat.reduceEqDiff, Nat.reduceAdd, Nat.reduceMul, Nat.reduceSub, Int.reduceToNat, s6], by simp (disch := first | (simp only [go_sem, Bool.and_self, eq_self]; done) | omega | (simp only [List.length_cons, List.length_nil]; omega)) only [go_sem, ↓reduceIte, Nat.reduceEqDiff, Nat.reduceAdd, Nat.reduceMul, Nat.reduceSub, Int.reduceToNat, s7], by simp (disch := first | (simp only [go_sem, Bool.and_self, eq_self]; done) | omega | (simp only [List.length_cons, List.length_nil]; omega)) only [go_sem, ↓reduceIte, Nat.reduceEqDiff, Nat.reduceAdd, Nat.reduceMul, Nat.reduceSub, Int.reduceToNat, s8], by simp (disch := first | (simp only [go_sem, Bool.and_self, eq_self]; done) | omega | (simp only [List.length_cons, List.length_nil]; omega)) only [go_sem, ↓reduceIte, Nat.reduceEqDiff, Nat.reduceAdd, Nat.reduceMul, Nat.reduceSub, Int.reduceToNat, s9], by simp (disch := first | (simp only [go_sem, Bool.and_self, eq_self]; done) | omega | (simp only [List.length_cons, List.length_nil]; omega)) only [go_sem, ↓reduceIte, Nat.reduceEqDiff, Nat.reduceAdd, Nat.reduceMul, Nat.reduceSub, Int.reduceToNat, gnx], fun q hq => ?_, by simp (disch := first | (simp only [go_sem, Bool.and_self, eq_self]; done) | omega | (simp only [List.length_cons, List.length_nil]; omega)) only [go_sem, ↓reduceIte, Nat.reduceEqDiff, Nat.reduceAdd, Nat.reduceMul, Nat.reduceSub, Int.reduceToNat]⟩
    simp (disch := first | (simp only [go_sem, Bool.and_self, eq_self]; done) | omega | (simp only [List.length_cons, List.length_nil]; omega)) only [go_sem, ↓reduceIte, Nat.reduceEqDiff, Nat.reduceAdd, Nat.reduceMul, Nat.reduceSub, Int.reduceToNat, Nat.ne_of_lt hq]
    exact gfr q hq
  · rintro st g ⟨s0, s5, s6, s7, s8, s9, gnx, gfr, gbl⟩
    have htl : (tameRow a i).length = (tameL a).toNat := fillR_len _ _ _ _
    have hse : sealA g (.sl h.nx 0 (tameL a).toNat 1) = some (LI (tameRow a i), g.put h.nx (some (.cells true true ((tameRow a i).flatMap (e1 I))))) := by
      simp (disch := first | (simp only [go_sem, Bool.and_self, eq_self]; done) | omega | (simp only [List.length_cons, List.length_nil]; omega)) only [go_sem, ↓reduceIte, Nat.reduceEqDiff, Nat.reduceAdd, Nat.reduceMul, Nat.reduceSub, Int.reduceToNat, gbl, htl]
    have hbs := bsB_one (P := Try.prog) 27 _ (LI (tameRow a i)) .nil _ isz27 izero27 rfl rfl rfl hse rfl rfl (pure_L _)
    have how2 : Own (e1 LI) 1 (g.put h.nx (some (.cells true true ((tameRow a i).flatMap (e1 I))))) v ((List.range i).map (tameRow a)) :=
      how.mono (by rw [put_nx]; omega) fun q hq => by rw [put_bl, if_neg (by omega)]; exact gfr q hq
    have happ := app_one (P := Try.prog) how2 27 24 .nil (tameRow a i) isz27 ibytes27 izero27 rfl (by simp; omega) (by simp; omega)
    simp (disch := first | (simp only [go_sem, Bool.and_self, eq_self]; done) | omega | (simp only [List.length_cons, List.length_nil]; omega)) only [go_sem, ↓reduceIte, Nat.reduceEqDiff, Nat.reduceAdd, Nat.reduceMul, Nat.reduceSub, Int.reduceToNat, s0, s5, s6, s7, s8, s9, hbs, happ]
    rw [ForK_normal]
    refine ⟨hilt, by simp (disch := first | (simp only [go_sem, Bool.and_self, eq_self]; done) | omega | (simp only [List.length_cons, List.length_nil]; omega)) only [go_sem, ↓reduceIte, Nat.reduceEqDiff, Nat.reduceAdd, Nat.reduceMul, Nat.reduceSub, Int.reduceToNat, s8], by simp (disch := first | (simp only [go_sem, Bool.and_self, eq_self]; done) | omega | (simp only [List.length_cons, List.length_nil]; omega)) only [go_sem, ↓reduceIte, Nat.reduceEqDiff, Nat.reduceAdd, Nat.reduceMul, Nat.reduceSub, Int.reduceToNat, s0], by simp (disch := first | (simp only [go_sem, Bool.and_self, eq_self]; done) | omega | (simp only [List.length_cons, List.length_nil]; omega)) only [go_sem, ↓reduceIte, Nat.reduceEqDiff, Nat.reduceAdd, Nat.reduceMul, Nat.reduceSub, Int.reduceToNat, s5], by simp (disch := first | (simp only [go_sem, Bool.and_self, eq_self]; done) | omega | (simp only [List.length_cons, List.length_nil]; omega)) only [go_sem, ↓reduceIte, Nat.reduceEqDiff, Nat.reduceAdd, Nat.reduceMul, Nat.reduceSub, Int.reduceToNat, s6], _, by simp (disch := first | (simp only [go_sem, Bool.and_self, eq_self]; done) | omega | (simp only [List.length_cons, List.length_nil]; omega)) only [go_sem, ↓reduceIte, Nat.reduceEqDiff, Nat.reduceAdd, Nat.reduceMul, Nat.reduceSub, Int.reduceToNat]; rfl, ?_⟩
    rw [← rows_snoc]
    exact Own.app _ _ _
theorem k11 (a : List (List Int)) (ha : okM a) (most : Int) (hm : 1 ≤ most ∧ most ≤ 8) : ConW Try.prog cfg 11 h (some ([LLI a, I most], h')) K = K (LLI (tameM a most)) h' := by
  rw [ConW_any (f11_con a ha most hm) rfl]; rfl

theorem tameM_plan (a : List (List Int)) {most : Int} (hm : 1 ≤ most ∧ most ≤ 6) : isPlanB (tameM a most) = true := by
  have hK := tameK_bounds a hm.1
  have hL := tameL_bounds a
  have hlen : (tameM a most).length = (tameK a most).toNat := by simp [tameM]
  have hrow : ∀ i, i < (tameK a most).toNat → nth (tameM a most) i = tameRow a i := fun i hi => nth_map_range _ _ _ hi
  have hrl : ∀ i, (tameRow a i).length = (tameL a).toNat := fun i => fillR_len _ _ _ _
  have h0 : nth (tameM a most) 0 = tameRow a 0 := hrow 0 (by omega)
  simp only [isPlanB, Bool.and_eq_true, decide_eq_true_eq]
  refine ⟨⟨by omega, by rw [h0, hrl]; omega⟩, all_of_nth fun i hi => ?_⟩
  rw [hlen] at hi
  rw [hrow i hi, h0, hrl, hrl]
  simp only [decide_true, Bool.true_and]
  refine all_of_nth fun j hj => ?_
  rw [hrl] at hj
  rw [tameRow, fillR_nth hj]
  split
  · have := modI_bounds (at2 a i j) (n := 2) (by omega)
    simp only [decide_eq_true_eq]
    omega
  · rfl

/-! ### Cuts -/
def tamedC (a : List (List Int)) : Int := if 0 < a.length then 1 + modI ((nth a 0).length - 1) 4 else 2
def tamedRow (a : List (List Int)) (d : Int) (i j : Nat) : List Int := fillR (tamedC a).toNat (fun c => if i < a.length ∧ c < (nth a i).length then 1 + modI (at2 a i c - 1) d else 1) 0 j
/-- What 'tamed' returns. -/
def tamedM (a : List (List Int)) (k d : Int) : List (List Int) := (List.range k.toNat).map fun i => tamedRow a d i (tamedC a).toNat

theorem tamedC_bounds (a : List (List Int)) : 1 ≤ tamedC a ∧ tamedC a ≤ 4 := by
  unfold tamedC
  split
  · have := modI_bounds ((nth a 0).length - 1) (n := 4) (by omega); omega
  · omega
theorem f13_con (a : List (List Int)) (ha : okM a) (k d : Int) (hk : 1 ≤ k ∧ k ≤ 8) (hd : 1 ≤ d ∧ d ≤ 8) : Con Try.prog cfg 13 [LLI a, I k, I d] (.fresh 1 ((tamedM a k d).flatMap (e1 LI))) := by
  have hlen := ha.1.1
  have hC := tamedC_bounds a
  refine Con_intro Try.func13 rfl ok13 (Nat.le_of_ble_eq_true rfl) rfl ?_
  simp only [Try.f13, Option.getD_some, initSt3]
  simp (disch := first | (simp only [go_sem, Bool.and_self, eq_self]; done) | omega | (simp only [List.length_cons, List.length_nil]; omega)) only [go_sem, ↓reduceIte, Nat.reduceEqDiff, Nat.reduceAdd, Nat.reduceMul, Nat.reduceSub, Int.reduceToNat]
  refine condW_join (fun st h => st 0 = LLI a ∧ st 1 = I k ∧ st 2 = I d ∧ st 7 = I (tamedC a) ∧ h = Hp.empty) (fun hz => ?_) (fun hz => ?_) ?_
  · have hl1 : 1 + modI (((nth a 0).length : Int) - 1) 4 = tamedC a := by simp only [tamedC]; rw [if_pos (by omega)]
    have hr0 := ha.1.row (show 0 < a.length by omega)
    have mk2 := fun h h' K => m12 (h := h) (h' := h') (K := K) (((nth a 0).length : Int) - 1) 4 (by unfold ok64; omega) (by omega) (by omega)
    simp (disch := first | (simp only [go_sem, Bool.and_self, eq_self]; done) | omega | (simp only [List.length_cons, List.length_nil]; omega)) only [go_sem, ↓reduceIte, Nat.reduceEqDiff, Nat.reduceAdd, Nat.reduceMul, Nat.reduceSub, Int.reduceToNat, mk2, hl1]
  · have hl1 : tamedC a = 2 := by simp only [tamedC]; rw [if_neg (by omega)]
    simp (disch := first | (simp only [go_sem, Bool.and_self, eq_self]; done) | omega | (simp only [List.length_cons, List.length_nil]; omega)) only [go_sem, ↓reduceIte, Nat.reduceEqDiff, Nat.reduceAdd, Nat.reduceMul, Nat.reduceSub, Int.reduceToNat, hl1]
  rintro st h ⟨s0, s1, s2, s7, rfl⟩
  simp (disch := first | (simp only [go_sem, Bool.and_self, eq_self]; done) | omega | (simp only [List.length_cons, List.length_nil]; omega)) only [go_sem, ↓reduceIte, Nat.reduceEqDiff, Nat.reduceAdd, Nat.reduceMul, Nat.reduceSub, Int.reduceToNat, s0, s1, s2, s7]
  refine WP_for 9 k.toNat (fun i st h => st 0 = LLI a ∧ st 1 = I k ∧ st 2 = I d ∧ st 7 = I (tamedC a) ∧ ∃ v, st 8 = v ∧ Own (e1 LI) 1 h v ((List.range i).map fun i => tamedRow a d i (tamedC a).toNat))
    (by simp (disch := first | (simp only [go_sem, Bool.and_self, eq_self]; done) | omega | (simp only [List.length_cons, List.length_nil]; omega)) only [go_sem, ↓reduceIte, Nat.reduceEqDiff, Nat.reduceAdd, Nat.reduceMul, Nat.reduceSub, Int.reduceToNat]) ⟨by simp (disch := first | (simp only [go_sem, Bool.and_self, eq_self]; done) | omega | (simp only [List.length_cons, List.length_nil]; omega)) only [go_sem, ↓reduceIte, Nat.reduceEqDiff, Nat.reduceAdd, Nat.reduceMul, Nat.reduceSub, Int.reduceToNat, s0], by simp (disch := first | (simp only [go_sem, Bool.and_self, eq_self]; done) | omega | (simp only [List.length_cons, List.length_nil]; omega)) only [go_sem, ↓reduceIte, Nat.reduceEqDiff, Nat.reduceAdd, Nat.reduceMul, Nat.reduceSub, Int.reduceToNat, s1], by simp (disch := first | (simp only [go_sem, Bool.and_self, eq_self]; done) | omega | (simp only [List.length_cons, List.length_nil]; omega)) only [go_sem, ↓reduceIte, Nat.reduceEqDiff, Nat.reduceAdd, Nat.reduceMul, Nat.reduceSub, Int.reduceToNat, s2], by simp (disch := first | (simp only [go_sem, Bool.and_self, eq_self]; done) | omega | (simp only [List.length_cons, List.length_nil]; omega)) only [go_sem, ↓reduceIte, Nat.reduceEqDiff, Nat.reduceAdd, Nat.reduceMul, Nat.reduceSub, Int.reduceToNat, s7], .nil, by simp (disch := first | (simp only [go_sem, Bool.and_self, eq_self]; done) | omega | (simp only [List.length_cons, List.length_nil]; omega)) only [go_sem, ↓reduceIte, Nat.reduceEqDiff, Nat.reduceAdd, Nat.reduceMul, Nat.reduceSub, Int.reduceToNat], .inl ⟨rfl, rfl⟩⟩ ?_
  rintro i st h hi s9 ⟨s0, s1, s2, s7, v, s8, how⟩
  by_cases hlt : (i : Int) < k
  case neg =>
    have hik : i = k.toNat := by omega
    simp (disch := first | (simp only [go_sem, Bool.and_self, eq_self]; done) | omega | (simp only [List.length_cons, List.length_nil]; omega)) only [go_sem, ↓reduceIte, Nat.reduceEqDiff, Nat.reduceAdd, Nat.reduceMul, Nat.reduceSub, Int.reduceToNat, s9, s0, s1, s2, s7, s8, hlt]
    rw [hik] at how
    exact export_fresh (f := e1 LI) false 22 27 und22 isz27 how
  have hmk := fun h => makeB_int (P := Try.prog) (h := h) 3 (tamedC a) isz3 ibytes3 izero3 (by omega) (by omega)
  simp (disch := first | (simp only [go_sem, Bool.and_self, eq_self]; done) | omega | (simp only [List.length_cons, List.length_nil]; omega)) only [go_sem, ↓reduceIte, Nat.reduceEqDiff, Nat.reduceAdd, Nat.reduceMul, Nat.reduceSub, Int.reduceToNat, s9, s0, s1, s2, s7, s8, hlt, hmk]
  have hilt : i < k.toNat := by omega
  refine WP_cut (fun st g => st 0 = LLI a ∧ st 1 = I k ∧ st 2 = I d ∧ st 7 = I (tamedC a) ∧ st 8 = v ∧ st 9 = I i ∧ st 10 = .sl h.nx 0 (tamedC a).toNat 1 ∧ g.nx = h.nx + 1 ∧ (∀ q, q < h.nx → g.bl q = h.bl q) ∧ g.bl h.nx = some (.cells false true ((tamedRow a d i (tamedC a).toNat).flatMap (e1 I)))) ?_ ?_
  · refine WP_for 11 (tamedC a).toNat (fun j st g => st 0 = LLI a ∧ st 1 = I k ∧ st 2 = I d ∧ st 7 = I (tamedC a) ∧ st 8 = v ∧ st 9 = I i ∧ st 10 = .sl h.nx 0 (tamedC a).toNat 1 ∧ g.nx = h.nx + 1 ∧ (∀ q, q < h.nx → g.bl q = h.bl q) ∧ g.bl h.nx = some (.cells false true ((tamedRow a d i j).flatMap (e1 I))))
      (by simp (disch := first | (simp only [go_sem, Bool.and_self, eq_self]; done) | omega | (simp only [List.length_cons, List.length_nil]; omega)) only [go_sem, ↓reduceIte, Nat.reduceEqDiff, Nat.reduceAdd, Nat.reduceMul, Nat.reduceSub, Int.reduceToNat]) ⟨by simp (disch := first | (simp only [go_sem, Bool.and_self, eq_self]; done) | omega | (simp only [List.length_cons, List.length_nil]; omega)) only [go_sem, ↓reduceIte, Nat.reduceEqDiff, Nat.reduceAdd, Nat.reduceMul, Nat.reduceSub, Int.reduceToNat, s0], by simp (disch := first | (simp only [go_sem, Bool.and_self, eq_self]; done) | omega | (simp only [List.length_cons, List.length_nil]; omega)) only [go_sem, ↓reduceIte, Nat.reduceEqDiff, Nat.reduceAdd, Nat.reduceMul, Nat.reduceSub, Int.reduceToNat, s1], by simp (disch := first | (simp only [go_sem, Bool.and_self, eq_self]; done) | omega | (simp only [List.length_cons, List.length_nil]; omega)) only [go_sem, ↓reduceIte, Nat.reduceEqDiff, Nat.reduceAdd, Nat.reduceMul, Nat.reduceSub, Int.reduceToNat, s2], by simp (disch := first | (simp only [go_sem, Bool.and_self, eq_self]; done) | omega | (simp only [List.length_cons, List.length_nil]; omega)) only [go_sem, ↓reduceIte, Nat.reduceEqDiff, Nat.reduceAdd, Nat.reduceMul, Nat.reduceSub, Int.reduceToNat, s7], by simp (disch := first | (simp only [go_sem, Bool.and_self, eq_self]; done) | omega | (simp only [List.length_cons, List.length_nil]; omega)) only [go_sem, ↓reduceIte, Nat.reduceEqDiff, Nat.reduceAdd, Nat.reduceMul, Nat.reduceSub, Int.reduceToNat, s8], by simp (disch := first | (simp only [go_sem, Bool.and_self, eq_self]; done) | omega | (simp only [List.length_cons, List.length_nil]; omega)) only [go_sem, ↓reduceIte, Nat.reduceEqDiff, Nat.reduceAdd, Nat.reduceMul, Nat.reduceSub, Int.reduceToNat, s9], by simp (disch := first | (simp only [go_sem, Bool.and_self, eq_self]; done) | omega | (simp only [List.length_cons, List.length_nil]; omega)) only [go_sem, ↓reduceIte, Nat.reduceEqDiff, Nat.reduceAdd, Nat.reduceMul, Nat.reduceSub, Int.reduceToNat], by simp (disch := first | (simp only [go_sem, Bool.and_self, eq_self]; done) | omega | (simp only [List.length_cons, List.length_nil]; omega)) only [go_sem, ↓reduceIte, Nat.reduceEqDiff, Nat.reduceAdd, Nat.reduceMul, Nat.reduceSub, Int.reduceToNat], fun q hq => by simp (disch := first | (simp only [go_sem, Bool.and_self, eq_self]; done) | omega | (simp only [List.length_cons, List.length_nil]; omega)) only [go_sem, ↓reduceIte, Nat.reduceEqDiff, Nat.reduceAdd, Nat.reduceMul, Nat.reduceSub, Int.reduceToNat, Nat.ne_of_lt hq], by simp (disch := first | (simp only [go_sem, Bool.and_self, eq_self]; done) | omega | (simp only [List.length_cons, List.length_nil]; omega)) only [go_sem, ↓reduceIte, Nat.reduceEqDiff, Nat.reduceAdd, Nat.reduceMul, Nat.reduceSub, Int.reduceToNat, tamedRow, fillR_zero]⟩ ?_
    rintro j st g hj s11 ⟨s0, s1, s2, s7, s8, s9, s10, gnx, gfr, gbl⟩
    have hfl : (tamedRow a d i j).length = (tamedC a).toNat := fillR_len _ _ _ _
    by_cases hjt : (j : Int) < tamedC a
    case neg =>
      have hjn : j = (tamedC a).toNat := by omega
      simp (disch := first | (simp only [go_sem, Bool.and_self, eq_self]; done) | omega | (simp only [List.length_cons, List.length_nil]; omega)) only [go_sem, ↓reduceIte, Nat.reduceEqDiff, Nat.reduceAdd, Nat.reduceMul, Nat.reduceSub, Int.reduceToNat, s11, s0, s1, s2, s7, s8, s9, s10, hjt, gnx, gbl]
      refine ⟨gfr, ?_⟩
      rw [hjn]
    have hjl : j < (tamedC a).toNat := by omega
    have hset := fillR_set (f := fun c => if i < a.length ∧ c < (nth a i).length then 1 + modI (at2 a i c - 1) d else 1) (z := (0 : Int)) hjl
    have fin : ∀ (st' : St) (g' : Hp), st' 0 = LLI a → st' 1 = I k → st' 2 = I d → st' 7 = I (tamedC a) → st' 8 = v → st' 9 = I i → st' 10 = .sl h.nx 0 (tamedC a).toNat 1 → st' 11 = I j →
        g'.nx = h.nx + 1 → (∀ q, q < h.nx → g'.bl q = h.bl q) → g'.bl h.nx = some (.cells false true ((tamedRow a d i (j + 1)).flatMap (e1 I))) → True := fun _ _ _ _ _ _ _ _ _ _ _ _ _ => trivial
    have hfl1 : ((tamedRow a d i j).set j 1).length = (tamedC a).toNat := by rw [List.length_set, hfl]
    by_cases c2 : i < a.length
    case neg =>
      rw [if_neg (fun h => c2 h.1)] at hset
      simp (disch := first | (simp only [go_sem, Bool.and_self, eq_self]; done) | omega | (simp only [List.length_cons, List.length_nil]; omega)) only [go_sem, ↓reduceIte, Nat.reduceEqDiff, Nat.reduceAdd, Nat.reduceMul, Nat.reduceSub, Int.reduceToNat, s11, s0, s1, s2, s7, s8, s9, s10, hjt, c2, gbl, gnx]
      rw [ForK_normal]
      refine ⟨hjl, by simp (disch := first | (simp only [go_sem, Bool.and_self, eq_self]; done) | omega | (simp only [List.length_cons, List.length_nil]; omega)) only [go_sem, ↓reduceIte, Nat.reduceEqDiff, Nat.reduceAdd, Nat.reduceMul, Nat.reduceSub, Int.reduceToNat, s11], by simp (disch := first | (simp only [go_sem, Bool.and_self, eq_self]; done) | omega | (simp only [List.length_cons, List.length_nil]; omega)) only [go_sem, ↓reduceIte, Nat.reduceEqDiff, Nat.reduceAdd, Nat.reduceMul, Nat.reduceSub, Int.reduceToNat, s0], by simp (disch := first | (simp only [go_sem, Bool.and_self, eq_self]; done) | omega | (simp only [List.length_cons, List.length_nil]; omega)) only [go_sem, ↓reduceIte, Nat.reduceEqDiff, Nat.reduceAdd, Nat.reduceMul, Nat.reduceSub, Int.reduceToNat, s1], by simp (disch := first | (simp only [go_sem, Bool.and_self, eq_self]; done) | omega | (simp only [List.length_cons, List.length_nil]; omega)) only [go_sem, ↓reduceIte, Nat.reduceEqDiff, Nat.reduceAdd, Nat.reduceMul, Nat.reduceSub, Int.reduceToNat, s2], by simp (disch := first | (simp only [go_sem, Bool.and_self, eq_self]; done) | omega | (simp only [List.length_cons, List.length_nil]; omega)) only [go_sem, ↓reduceIte, Nat.reduceEqDiff, Nat.reduceAdd, Nat.reduceMul, Nat.reduceSub, Int.reduceToNat, s7], by simp (disch := first | (simp only [go_sem, Bool.and_self, eq_self]; done) | omega | (simp only [List.length_cons, List.length_nil]; omega)) only [go_sem, ↓reduceIte, Nat.reduceEqDiff, Nat.reduceAdd, Nat.reduceMul, Nat.reduceSub, Int.reduceToNat, s8], by simp (disch := first | (simp only [go_sem, Bool.and_self, eq_self]; done) | omega | (simp only [List.length_cons, List.length_nil]; omega)) only [go_sem, ↓reduceIte, Nat.reduceEqDiff, Nat.reduceAdd, Nat.reduceMul, Nat.reduceSub, Int.reduceToNat, s9], by simp (disch := first | (simp only [go_sem, Bool.and_self, eq_self]; done) | omega | (simp only [List.length_cons, List.length_nil]; omega)) only [go_sem, ↓reduceIte, Nat.reduceEqDiff, Nat.reduceAdd, Nat.reduceMul, Nat.reduceSub, Int.reduceToNat, s10], by simp (disch := first | (simp only [go_sem, Bool.and_self, eq_self]; done) | omega | (simp only [List.length_cons, List.length_nil]; omega)) only [go_sem, ↓reduceIte, Nat.reduceEqDiff, Nat.reduceAdd, Nat.reduceMul, Nat.reduceSub, Int.reduceToNat, gnx], fun q hq => ?_, ?_⟩
      · simp (disch := first | (simp only [go_sem, Bool.and_self, eq_self]; done) | omega | (simp only [List.length_cons, List.length_nil]; omega)) only [go_sem, ↓reduceIte, Nat.reduceEqDiff, Nat.reduceAdd, Nat.reduceMul, Nat.reduceSub, Int.reduceToNat, Nat.ne_of_lt hq]
        exact gfr q hq
      · simp (disch := first | (simp only [go_sem, Bool.and_self, eq_self]; done) | omega | (simp only [List.length_cons, List.length_nil]; omega)) only [go_sem, ↓reduceIte, Nat.reduceEqDiff, Nat.reduceAdd, Nat.reduceMul, Nat.reduceSub, Int.reduceToNat, tamedRow, hset]
    by_cases c3 : j < (nth a i).length
    case neg =>
      rw [if_neg (fun h => c3 h.2)] at hset
      simp (disch := first | (simp only [go_sem, Bool.and_self, eq_self]; done) | omega | (simp only [List.length_cons, List.length_nil]; omega)) only [go_sem, ↓reduceIte, Nat.reduceEqDiff, Nat.reduceAdd, Nat.reduceMul, Nat.reduceSub, Int.reduceToNat, s11, s0, s1, s2, s7, s8, s9, s10, hjt, c2, c3, gbl, gnx]
      rw [ForK_normal]
      refine ⟨hjl, by simp (disch := first | (simp only [go_sem, Bool.and_self, eq_self]; done) | omega | (simp only [List.length_cons, List.length_nil]; omega)) only [go_sem, ↓reduceIte, Nat.reduceEqDiff, Nat.reduceAdd, Nat.reduceMul, Nat.reduceSub, Int.reduceToNat, s11], by simp (disch := first | (simp only [go_sem, Bool.and_self, eq_self]; done) | omega | (simp only [List.length_cons, List.length_nil]; omega)) only [go_sem, ↓reduceIte, Nat.reduceEqDiff, Nat.reduceAdd, Nat.reduceMul, Nat.reduceSub, Int.reduceToNat, s0], by simp (disch := first | (simp only [go_sem, Bool.and_self, eq_self]; done) | omega | (simp only [List.length_cons, List.length_nil]; omega)) only [go_sem, ↓reduceIte, Nat.reduceEqDiff, Nat.reduceAdd, Nat.reduceMul, Nat.reduceSub, Int.reduceToNat, s1], by simp (disch := first | (simp only [go_sem, Bool.and_self, eq_self]; done) | omega | (simp only [List.length_cons, List.length_nil]; omega)) only [go_sem, ↓reduceIte, Nat.reduceEqDiff, Nat.reduceAdd, Nat.reduceMul, Nat.reduceSub, Int.reduceToNat, s2], by simp (disch := first | (simp only [go_sem, Bool.and_self, eq_self]; done) | omega | (simp only [List.length_cons, List.length_nil]; omega)) only [go_sem, ↓reduceIte, Nat.reduceEqDiff, Nat.reduceAdd, Nat.reduceMul, Nat.reduceSub, Int.reduceToNat, s7], by simp (disch := first | (simp only [go_sem, Bool.and_self, eq_self]; done) | omega | (simp only [List.length_cons, List.length_nil]; omega)) only [go_sem, ↓reduceIte, Nat.reduceEqDiff, Nat.reduceAdd, Nat.reduceMul, Nat.reduceSub, Int.reduceToNat, s8], by simp (disch := first | (simp only [go_sem, Bool.and_self, eq_self]; done) | omega | (simp only [List.length_cons, List.length_nil]; omega)) only [go_sem, ↓reduceIte, Nat.reduceEqDiff, Nat.reduceAdd, Nat.reduceMul, Nat.reduceSub, Int.reduceToNat, s9], by simp (disch := first | (simp only [go_sem, Bool.and_self, eq_self]; done) | omega | (simp only [List.length_cons, List.length_nil]; omega)) only [go_sem, ↓reduceIte, Nat.reduceEqDiff, Nat.reduceAdd, Nat.reduceMul, Nat.reduceSub, Int.reduceToNat, s10], by simp (disch := first | (simp only [go_sem, Bool.and_self, eq_self]; done) | omega | (simp only [List.length_cons, List.length_nil]; omega)) only [go_sem, ↓reduceIte, Nat.reduceEqDiff, Nat.reduceAdd, Nat.reduceMul, Nat.reduceSub, Int.reduceToNat, gnx], fun q hq => ?_, ?_⟩
      · simp (disch := first | (simp only [go_sem, Bool.and_self, eq_self]; done) | omega | (simp only [List.length_cons, List.length_nil]; omega)) only [go_sem, ↓reduceIte, Nat.reduceEqDiff, Nat.reduceAdd, Nat.reduceMul, Nat.reduceSub, Int.reduceToNat, Nat.ne_of_lt hq]
        exact gfr q hq
      · simp (disch := first | (simp only [go_sem, Bool.and_self, eq_self]; done) | omega | (simp only [List.length_cons, List.length_nil]; omega)) only [go_sem, ↓reduceIte, Nat.reduceEqDiff, Nat.reduceAdd, Nat.reduceMul, Nat.reduceSub, Int.reduceToNat, tamedRow, hset]
    have mk3 := fun h h' K => m12 (h := h) (h' := h') (K := K) (IntKind.i64.wrap (at2 a i j - 1)) d (ok64_wrap _) (by omega) (by omega)
    have hmb := modI_bounds (at2 a i j - 1) (n := d) (by omega)
    rw [if_pos ⟨c2, c3⟩] at hset
    simp (disch := first | (simp only [go_sem, Bool.and_self, eq_self]; done) | omega | (simp only [List.length_cons, List.length_nil]; omega)) only [go_sem, ↓reduceIte, Nat.reduceEqDiff, Nat.reduceAdd, Nat.reduceMul, Nat.reduceSub, Int.reduceToNat, s11, s0, s1, s2, s7, s8, s9, s10, hjt, c2, c3, gbl, gnx, mk3, modI_wrap]
    rw [ForK_normal]
    refine ⟨hjl, by simp (disch := first | (simp only [go_sem, Bool.and_self, eq_self]; done) | omega | (simp only [List.length_cons, List.length_nil]; omega)) only [go_sem, ↓reduceIte, Nat.reduceEqDiff, Nat.reduceAdd, Nat.reduceMul, Nat.reduceSub, Int.reduceToNat, s11], by simp (disch := first | (simp only [go_sem, Bool.and_self, eq_self]; done) | omega | (simp only [List.length_cons, List.length_nil]; omega)) only [go_sem, ↓reduceIte, Nat.reduceEqDiff, Nat.reduceAdd, Nat.reduceMul, Nat.reduceSub, Int.reduceToNat, s0], by simp (disch := first | (simp only [go_sem, Bool.and_self, eq_self]; done) | omega | (simp only [List.length_cons, List.length_nil]; omega)) only [go_sem, ↓reduceIte, Nat.reduceEqDiff, Nat.reduceAdd, Nat.reduceMul, Nat.reduceSub, Int.reduceToNat, s1], by simp (disch := first | (simp only [go_sem, Bool.and_self, eq_self]; done) | omega | (simp only [List.length_cons, List.length_nil]; omega)) only [go_sem, ↓reduceIte, Nat.reduceEqDiff, Nat.reduceAdd, Nat.reduceMul, Nat.reduceSub, Int.reduceToNat, s2], by simp (disch := first | (simp only [go_sem, Bool.and_self, eq_self]; done) | omega | (simp only [List.length_cons, List.length_nil]; omega)) only [go_sem, ↓reduceIte, Nat.reduceEqDiff, Nat.reduceAdd, Nat.reduceMul, Nat.reduceSub, Int.reduceToNat, s7], by simp (disch := first | (simp only [go_sem, Bool.and_self, eq_self]; done) | omega | (simp only [List.length_cons, List.length_nil]; omega)) only [go_sem, ↓reduceIte, Nat.reduceEqDiff, Nat.reduceAdd, Nat.reduceMul, Nat.reduceSub, Int.reduceToNat, s8], by simp (disch := first | (simp only [go_sem, Bool.and_self, eq_self]; done) | omega | (simp only [List.length_cons, List.length_nil]; omega)) only [go_sem, ↓reduceIte, Nat.reduceEqDiff, Nat.reduceAdd, Nat.reduceMul, Nat.reduceSub, Int.reduceToNat, s9], by simp (disch := first | (simp only [go_sem, Bool.and_self, eq_self]; done) | omega | (simp only [List.length_cons, List.length_nil]; omega)) only [go_sem, ↓reduceIte, Nat.reduceEqDiff, Nat.reduceAdd, Nat.reduceMul, Nat.reduceSub, Int.reduceToNat, s10], by simp (disch := first | (simp only [go_sem, Bool.and_self, eq_self]; done) | omega | (simp only [List.length_cons, List.length_nil]; omega)) only [go_sem, ↓reduceIte, Nat.reduceEqDiff, Nat.reduceAdd, Nat.reduceMul, Nat.reduceSub, Int.reduceToNat, gnx], fun q hq => ?_, ?_⟩
    · simp (disch := first | (simp only [go_sem, Bool.and_self, eq_self]; done) | omega | (simp only [List.length_cons, List.length_nil]; omega)) only [go_sem, ↓reduceIte, Nat.reduceEqDiff, Nat.reduceAdd, Nat.reduceMul, Nat.reduceSub, Int.reduceToNat, Nat.ne_of_lt hq]
      exact gfr q hq
    · simp (disch := first | (simp only [go_sem, Bool.and_self, eq_self]; done) | omega | (simp only [List.length_cons, List.length_nil]; omega)) only [go_sem, ↓reduceIte, Nat.reduceEqDiff, Nat.reduceAdd, Nat.reduceMul, Nat.reduceSub, Int.reduceToNat, tamedRow, List.set_set, hset]
  · rintro st g ⟨s0, s1, s2, s7, s8, s9, s10, gnx, gfr, gbl⟩
    have htl : (tamedRow a d i (tamedC a).toNat).length = (tamedC a).toNat := fillR_len _ _ _ _
    have hse : sealA g (.sl h.nx 0 (tamedC a).toNat 1) = some (LI (tamedRow a d i (tamedC a).toNat), g.put h.nx (some (.cells true true ((tamedRow a d i (tamedC a).toNat).flatMap (e1 I))))) := by
      simp (disch := first | (simp only [go_sem, Bool.and_self, eq_self]; done) | omega | (simp only [List.length_cons, List.length_nil]; omega)) only [go_sem, ↓reduceIte, Nat.reduceEqDiff, Nat.reduceAdd, Nat.reduceMul, Nat.reduceSub, Int.reduceToNat, gbl, htl]
    have hbs := bsB_one (P := Try.prog) 27 _ (LI (tamedRow a d i (tamedC a).toNat)) .nil _ isz27 izero27 rfl rfl rfl hse rfl rfl (pure_L _)
    have how2 : Own (e1 LI) 1 (g.put h.nx (some (.cells true true ((tamedRow a d i (tamedC a).toNat).flatMap (e1 I))))) v ((List.range i).map fun i => tamedRow a d i (tamedC a).toNat) :=
      how.mono (by rw [put_nx]; omega) fun q hq => by rw [put_bl, if_neg (by omega)]; exact gfr q hq
    have happ := app_one (P := Try.prog) how2 27 24 .nil (tamedRow a d i (tamedC a).toNat) isz27 ibytes27 izero27 rfl (by simp; omega) (by simp; omega)
    simp (disch := first | (simp only [go_sem, Bool.and_self, eq_self]; done) | omega | (simp only [List.length_cons, List.length_nil]; omega)) only [go_sem, ↓reduceIte, Nat.reduceEqDiff, Nat.reduceAdd, Nat.reduceMul, Nat.reduceSub, Int.reduceToNat, s0, s1, s2, s7, s8, s9, s10, hbs, happ]
    rw [ForK_normal]
    refine ⟨hilt, by simp (disch := first | (simp only [go_sem, Bool.and_self, eq_self]; done) | omega | (simp only [List.length_cons, List.length_nil]; omega)) only [go_sem, ↓reduceIte, Nat.reduceEqDiff, Nat.reduceAdd, Nat.reduceMul, Nat.reduceSub, Int.reduceToNat, s9], by simp (disch := first | (simp only [go_sem, Bool.and_self, eq_self]; done) | omega | (simp only [List.length_cons, List.length_nil]; omega)) only [go_sem, ↓reduceIte, Nat.reduceEqDiff, Nat.reduceAdd, Nat.reduceMul, Nat.reduceSub, Int.reduceToNat, s0], by simp (disch := first | (simp only [go_sem, Bool.and_self, eq_self]; done) | omega | (simp only [List.length_cons, List.length_nil]; omega)) only [go_sem, ↓reduceIte, Nat.reduceEqDiff, Nat.reduceAdd, Nat.reduceMul, Nat.reduceSub, Int.reduceToNat, s1], by simp (disch := first | (simp only [go_sem, Bool.and_self, eq_self]; done) | omega | (simp only [List.length_cons, List.length_nil]; omega)) only [go_sem, ↓reduceIte, Nat.reduceEqDiff, Nat.reduceAdd, Nat.reduceMul, Nat.reduceSub, Int.reduceToNat, s2], by simp (disch := first | (simp only [go_sem, Bool.and_self, eq_self]; done) | omega | (simp only [List.length_cons, List.length_nil]; omega)) only [go_sem, ↓reduceIte, Nat.reduceEqDiff, Nat.reduceAdd, Nat.reduceMul, Nat.reduceSub, Int.reduceToNat, s7], _, by simp (disch := first | (simp only [go_sem, Bool.and_self, eq_self]; done) | omega | (simp only [List.length_cons, List.length_nil]; omega)) only [go_sem, ↓reduceIte, Nat.reduceEqDiff, Nat.reduceAdd, Nat.reduceMul, Nat.reduceSub, Int.reduceToNat]; rfl, ?_⟩
    rw [← rows_snoc fun i => tamedRow a d i (tamedC a).toNat]
    exact Own.app _ _ _
theorem k13 (a : List (List Int)) (ha : okM a) (k d : Int) (hk : 1 ≤ k ∧ k ≤ 8) (hd : 1 ≤ d ∧ d ≤ 8) : ConW Try.prog cfg 13 h (some ([LLI a, I k, I d], h')) K = K (.sl h'.nx 0 (tamedM a k d).length 1) (h'.alloc (.cells false true ((tamedM a k d).flatMap (e1 LI)))) := by
  rw [ConW_any (f13_con a ha k d hk hd) rfl, importR_fresh, fresh_len]
end Go.Proofs.Ytkjdnnedncomgaa
