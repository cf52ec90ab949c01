/-
  The reference's determinant.
  eliminate.
  solve.
  isSound.
  isChain; the reference's Chain.
  Rules as lists: has, the reference's Rule, Rule.
  The reference's Values.
  The reference's Chain.
  Chains and lists of fractions, read as lists of numbers.
-/
import Derived.Test.YtgamcclfdkpcgaaL2M1
set_option linter.unusedVariables false
set_option linter.unusedSimpArgs false
set_option maxRecDepth 10000
namespace Go.Proofs.Ytgamcclfdkpcgaa
open Go Go.Am

variable {h h' : Hp} {K : AV → Hp → Prop}

abbrev matL (m : List (List Int)) : Mat := fun r c => nth (nth m r) c
def cutR (r : List Int) (j : Nat) : List Int := r.take j ++ r.drop (j + 1)
theorem cutR_len {r : List Int} {j : Nat} (hj : j < r.length) : (cutR r j).length = r.length - 1 := by
  rw [cutR, List.length_append, List.length_take, List.length_drop]; omega
theorem cutR_nth {r : List Int} {j c : Nat} (hj : j < r.length) (hc : c < r.length - 1) : nth (cutR r j) c = nth r (skp j c) := by
  unfold cutR skp
  by_cases h : c < j
  · rw [if_pos h, nth_append_left _ _ _ (by rw [List.length_take]; omega)]
    simp [nth, List.getElem?_take_of_lt h]
  · rw [if_neg h, nth, List.getElem?_append_right (by rw [List.length_take]; omega), List.length_take, List.getElem?_drop, nth]
    congr 2; omega
def cutM (m : List (List Int)) (j : Nat) : List (List Int) := (List.range (m.length - 1)).map fun i => cutR (nth m (i + 1)) j
structure sqM (m : List (List Int)) (k : Nat) : Prop where
  len : m.length = k
  row : ∀ i, i < k → (nth m i).length = k
  b : ∀ i, i < k → sumN (fun c => absI (nth (nth m i) c)) k ≤ 1009
theorem sqM.cut {m : List (List Int)} {k : Nat} (h : sqM m (k + 1)) {j : Nat} (hj : j < k + 1) : sqM (cutM m j) k ∧ ∀ r c, r < k → c < k → nth (nth (cutM m j) r) c = minorM (matL m) j r c := by
  have hl := h.len
  have hn : ∀ i, i < k → nth (cutM m j) i = cutR (nth m (i + 1)) j := fun i hi => by
    rw [cutM, nth_map_range _ _ _ (by omega)]
  have hc : ∀ r c, r < k → c < k → nth (nth (cutM m j) r) c = minorM (matL m) j r c := fun r c hr hc => by
    have := h.row (r + 1) (by omega)
    rw [hn r hr, cutR_nth (by omega) (by omega)]; rfl
  refine ⟨⟨by simp [cutM, hl], fun i hi => ?_, fun i hi => ?_⟩, hc⟩
  · have := h.row (i + 1) (by omega)
    rw [hn i hi, cutR_len (by omega)]; omega
  · have h1 := sumN_skp (fun c => absI (nth (nth m (i + 1)) c)) (j := j) (n := k) (by omega)
    have h2 := h.b (i + 1) (by omega)
    have h3 := absI_nonneg (nth (nth m (i + 1)) j)
    have h4 := sumN_congr (f := fun c => absI (nth (nth (cutM m j) i) c)) (g := fun c => absI (nth (nth m (i + 1)) (skp j c))) (n := k) fun c hck => by
      rw [hc i c hi hck]; rfl
    rw [h4]
    omega
theorem pow1009 {k : Nat} (h : k ≤ 6) : (1009 : Int) ^ k ≤ 2000000000000000000 := by
  have h1 : (1009 : Nat) ^ k ≤ 1009 ^ 6 := Nat.pow_le_pow_right (by decide) h
  have h2 : ((1009 ^ k : Nat) : Int) = (1009 : Int) ^ k := by simp
  have : (1009 : Nat) ^ 6 ≤ 2000000000000000000 := by decide
  omega
theorem mul_bd' {a b A B : Int} (ha : -A ≤ a ∧ a ≤ A) (hb : -B ≤ b ∧ b ≤ B) : -(A * B) ≤ a * b ∧ a * b ≤ A * B := by
  refine absI_le.1 ?_
  rw [absI_mul]
  exact Int.mul_le_mul (absI_le.2 ha) (absI_le.2 hb) (absI_nonneg _) (by omega)
theorem f58_con : ∀ (k : Nat), k ≤ 6 → ∀ m : List (List Int), sqM m k → Con Try.prog cfg 58 [LLI m] (I (det k (matL m))) := by
  intro k
  induction k with
  | zero =>
    intro hk m hm
    have hl : (m.length : Int) = 0 := by have := hm.len; omega
    have hr : det 0 (matL m) = 1 := rfl
    rw [hr]
    refine Con_intro Try.func58 rfl ok58 (Nat.le_of_ble_eq_true rfl) rfl ?_
    simp only [Try.f58, Option.getD_some, initSt1]
    simp (disch := first | (simp only [go_sem, gb0, eq_self]; done) | omega | (simp only [gl1, gl2]; omega)) only [go_sem, ↓reduceIte, Nat.reduceEqDiff, Nat.reduceAdd, Nat.reduceMul, Nat.reduceSub, Int.reduceToNat, Nat.reduceBEq, hl, eq_self, decide_true]
  | succ k ih =>
    intro hk m hm
    have hl := hm.len
    have hl0 : ¬ (m.length : Int) = 0 := by omega
    have hl1 : (m.length : Int) = (k : Int) + 1 := by omega
    have hrow0 := hm.row 0 (by omega)
    have hpw := pow1009 hk
    have hpos : (0 : Int) < (m.length : Int) := by omega
    have hpos' : 0 < m.length := by omega
    have hB : ∀ j, j < k + 1 → absI (det k (minorM (matL m) j)) ≤ 1009 ^ k := fun j hj => by
      have hc := hm.cut hj
      rw [← det_congr (M := matL (cutM m j)) fun r c hr hc' => hc.2 r c hr hc']
      exact det_bound (by decide) _ fun r hr => hc.1.b r hr
    have hpart := det_part (n := k) (B := 1009) (by decide) (matL m) (hm.b 0 (by omega)) hB
    obtain ⟨f, hf⟩ : ∃ f : Nat → Int, f = fun j => sg j * matL m 0 j * det k (minorM (matL m) j) := ⟨_, rfl⟩
    have hdet : det (k + 1) (matL m) = sumN f (k + 1) := by rw [hf]; rfl
    rw [← hf] at hpart
    rw [hdet]
    refine Con_intro Try.func58 rfl ok58 (Nat.le_of_ble_eq_true rfl) rfl ?_
    simp only [Try.f58, Option.getD_some, initSt1]
    simp (disch := first | (simp only [go_sem, gb0, eq_self]; done) | omega | (simp only [gl1, gl2]; omega)) only [go_sem, ↓reduceIte, Nat.reduceEqDiff, Nat.reduceAdd, Nat.reduceMul, Nat.reduceSub, Int.reduceToNat, Nat.reduceBEq, hl0]
    refine WP_for 5 (k + 1) (fun j st h => st 0 = LLI m ∧ st 3 = I (sumN f j) ∧ st 4 = I (sg j)) (by simp (disch := first | (simp only [go_sem, gb0, eq_self]; done) | omega | (simp only [gl1, gl2]; omega)) only [go_sem, ↓reduceIte, Nat.reduceEqDiff, Nat.reduceAdd, Nat.reduceMul, Nat.reduceSub, Int.reduceToNat, Nat.reduceBEq]) ⟨by simp (disch := first | (simp only [go_sem, gb0, eq_self]; done) | omega | (simp only [gl1, gl2]; omega)) only [go_sem, ↓reduceIte, Nat.reduceEqDiff, Nat.reduceAdd, Nat.reduceMul, Nat.reduceSub, Int.reduceToNat, Nat.reduceBEq], by simp (disch := first | (simp only [go_sem, gb0, eq_self]; done) | omega | (simp only [gl1, gl2]; omega)) only [go_sem, ↓reduceIte, Nat.reduceEqDiff, Nat.reduceAdd, Nat.reduceMul, Nat.reduceSub, Int.reduceToNat, Nat.reduceBEq]; rfl, by simp (disch := first | (simp only [go_sem, gb0, eq_self]; done) | omega | (simp only [gl1, gl2]; omega)) only [go_sem, ↓reduceIte, Nat.reduceEqDiff, Nat.reduceAdd, Nat.reduceMul, Nat.reduceSub, Int.reduceToNat, Nat.reduceBEq]; rfl⟩ ?_
    rintro j st h hj s5 ⟨s0, s3, s4⟩
    by_cases hlt : j < k + 1
    case neg =>
      have hje : j = k + 1 := by omega
      subst hje
      have hlt' : ¬ (((k + 1 : Nat) : Int)) < (m.length : Int) := by omega
      simp (disch := first | (simp only [go_sem, gb0, eq_self]; done) | omega | (simp only [gl1, gl2]; omega)) only [go_sem, ↓reduceIte, Nat.reduceEqDiff, Nat.reduceAdd, Nat.reduceMul, Nat.reduceSub, Int.reduceToNat, Nat.reduceBEq, s0, s3, s4, s5, hlt']
    have hltm : j < m.length := by omega
    have hlt' : (j : Int) < (m.length : Int) := by omega
    have hj0 : j < (nth m 0).length := by omega
    have hj0' : (j : Int) < ((nth m 0).length : Int) := by omega
    have hsgs := sg_succ j
    have hstep : sumN f (j + 1) = sumN f j + f j := rfl
    have hfj : f j = sg j * nth (nth m 0) j * det k (minorM (matL m) j) := by rw [hf]
    have hsb : -1 ≤ sg j ∧ sg j ≤ 1 := by unfold sg; split <;> decide
    by_cases hz : nth (nth m 0) j = 0
    · have hf0 : f j = 0 := by rw [hfj, hz]; simp
      rw [hf0, Int.add_zero] at hstep
      simp (disch := first | (simp only [go_sem, gb0, eq_self]; done) | omega | (simp only [gl1, gl2]; omega)) only [go_sem, ↓reduceIte, Nat.reduceEqDiff, Nat.reduceAdd, Nat.reduceMul, Nat.reduceSub, Int.reduceToNat, Nat.reduceBEq, s0, s3, s4, s5, hltm, hlt', hpos, hpos', hj0, hj0', hz, eq_self, decide_true, Bool.not_true]
      rw [ForK_normal]
      exact ⟨by omega, by simp (disch := first | (simp only [go_sem, gb0, eq_self]; done) | omega | (simp only [gl1, gl2]; omega)) only [go_sem, ↓reduceIte, Nat.reduceEqDiff, Nat.reduceAdd, Nat.reduceMul, Nat.reduceSub, Int.reduceToNat, Nat.reduceBEq, s5], by simp (disch := first | (simp only [go_sem, gb0, eq_self]; done) | omega | (simp only [gl1, gl2]; omega)) only [go_sem, ↓reduceIte, Nat.reduceEqDiff, Nat.reduceAdd, Nat.reduceMul, Nat.reduceSub, Int.reduceToNat, Nat.reduceBEq, s0], by (rw [hstep]; simp (disch := first | (simp only [go_sem, gb0, eq_self]; done) | omega | (simp only [gl1, gl2]; omega)) only [go_sem, ↓reduceIte, Nat.reduceEqDiff, Nat.reduceAdd, Nat.reduceMul, Nat.reduceSub, Int.reduceToNat, Nat.reduceBEq, s3]), by (rw [hsgs]; simp (disch := first | (simp only [go_sem, gb0, eq_self]; done) | omega | (simp only [gl1, gl2]; omega)) only [go_sem, ↓reduceIte, Nat.reduceEqDiff, Nat.reduceAdd, Nat.reduceMul, Nat.reduceSub, Int.reduceToNat, Nat.reduceBEq]; congr 1; omega)⟩
    have hcut := hm.cut hlt
    have hih := ih (by omega) (cutM m j) hcut.1
    rw [det_congr (M := matL (cutM m j)) fun r c hr hc' => hcut.2 r c hr hc'] at hih
    have k58 := fun h h' K => ConW_num (h := h) (h' := h') (K := K) hih rfl
    have hp1 := absI_le.1 (hpart j (by omega))
    have hp2 := absI_le.1 (hpart (j + 1) (by omega))
    have hm0 := term_le (f := fun c => absI (nth (nth m 0) c)) (fun c => absI_nonneg _) hlt
    have hb0 := hm.b 0 (by omega)
    have hd := absI_le.1 (hB j hlt)
    have hpk := pow1009 (show k ≤ 6 by omega)
    have hm0' := absI_le.1 (Int.le_trans hm0 hb0)
    simp (disch := first | (simp only [go_sem, gb0, eq_self]; done) | omega | (simp only [gl1, gl2]; omega)) only [go_sem, ↓reduceIte, Nat.reduceEqDiff, Nat.reduceAdd, Nat.reduceMul, Nat.reduceSub, Int.reduceToNat, Nat.reduceBEq, s0, s3, s4, s5, hltm, hlt', hpos, hpos', hj0, hj0', hz]
    refine WP_cut (fun st h => st 0 = LLI m ∧ st 3 = I (sumN f j) ∧ st 4 = I (sg j) ∧ st 5 = I j ∧ ∃ v, st 6 = v ∧ Go.Am.Own (e1 LI) 1 h v (cutM m j)) ?_ ?_
    · refine WP_for1 7 k (fun i st h => st 0 = LLI m ∧ st 3 = I (sumN f j) ∧ st 4 = I (sg j) ∧ st 5 = I j ∧ ∃ v, st 6 = v ∧ Go.Am.Own (e1 LI) 1 h v ((List.range i).map fun i => cutR (nth m (i + 1)) j)) (by simp (disch := first | (simp only [go_sem, gb0, eq_self]; done) | omega | (simp only [gl1, gl2]; omega)) only [go_sem, ↓reduceIte, Nat.reduceEqDiff, Nat.reduceAdd, Nat.reduceMul, Nat.reduceSub, Int.reduceToNat, Nat.reduceBEq]) ⟨by simp (disch := first | (simp only [go_sem, gb0, eq_self]; done) | omega | (simp only [gl1, gl2]; omega)) only [go_sem, ↓reduceIte, Nat.reduceEqDiff, Nat.reduceAdd, Nat.reduceMul, Nat.reduceSub, Int.reduceToNat, Nat.reduceBEq, s0], by simp (disch := first | (simp only [go_sem, gb0, eq_self]; done) | omega | (simp only [gl1, gl2]; omega)) only [go_sem, ↓reduceIte, Nat.reduceEqDiff, Nat.reduceAdd, Nat.reduceMul, Nat.reduceSub, Int.reduceToNat, Nat.reduceBEq, s3], by simp (disch := first | (simp only [go_sem, gb0, eq_self]; done) | omega | (simp only [gl1, gl2]; omega)) only [go_sem, ↓reduceIte, Nat.reduceEqDiff, Nat.reduceAdd, Nat.reduceMul, Nat.reduceSub, Int.reduceToNat, Nat.reduceBEq, s4], by simp (disch := first | (simp only [go_sem, gb0, eq_self]; done) | omega | (simp only [gl1, gl2]; omega)) only [go_sem, ↓reduceIte, Nat.reduceEqDiff, Nat.reduceAdd, Nat.reduceMul, Nat.reduceSub, Int.reduceToNat, Nat.reduceBEq, s5], .nil, by simp (disch := first | (simp only [go_sem, gb0, eq_self]; done) | omega | (simp only [gl1, gl2]; omega)) only [go_sem, ↓reduceIte, Nat.reduceEqDiff, Nat.reduceAdd, Nat.reduceMul, Nat.reduceSub, Int.reduceToNat, Nat.reduceBEq], .inl ⟨rfl, rfl⟩⟩ ?_
      rintro i st h hi s7 ⟨s0, s3, s4, s5, v, s6, how⟩
      by_cases hik : i < k
      case neg =>
        have hie : i = k := by omega
        have hno : ¬ (i : Int) + 1 < (m.length : Int) := by omega
        rw [hie] at how
        have hcm : cutM m j = (List.range k).map fun i => cutR (nth m (i + 1)) j := by rw [cutM, hl]; rfl
        rw [← hcm] at how
        simp (disch := first | (simp only [go_sem, gb0, eq_self]; done) | omega | (simp only [gl1, gl2]; omega)) only [go_sem, ↓reduceIte, Nat.reduceEqDiff, Nat.reduceAdd, Nat.reduceMul, Nat.reduceSub, Int.reduceToNat, Nat.reduceBEq, s0, s3, s4, s5, s6, s7, hno]
        exact ⟨_, rfl, how⟩
      have him : i + 1 < m.length := by omega
      have him' : (i : Int) + 1 < (m.length : Int) := by omega
      have hrow := hm.row (i + 1) (by omega)
      have hii0 : (0 : Int) ≤ (i : Int) + 1 := by omega
      have hcast : ((i : Int) + 1).toNat = i + 1 := by omega
      obtain ⟨r, hr⟩ : ∃ r, r = nth m (i + 1) := ⟨_, rfl⟩
      have hrr : nth m (i + 1) = r := hr.symm
      rw [hrr] at hrow
      have hcr : cutR (nth m (i + 1)) j = r.take j ++ r.drop (j + 1) := by rw [hrr]; rfl
      have htl : (r.take j).length = j := by simp; omega
      have hdl2 : (r.drop (j + 1)).length = r.length - (j + 1) := by simp
      have happ1 := app_nil (P := Try.prog) (h := h) (f := e1 I) 3 8 (I 0) (LI (r.take j)) (r.take j) isz3 ibytes3 izero3 rfl (cellsOf_L _ _) (lenA_L _ _) (by omega) (by omega)
      have ow1 : Go.Am.Own (e1 I) 1 (h.alloc (.cells false true ((r.take j).flatMap (e1 I)))) (.sl h.nx 0 (r.take j).length 1) (r.take j) := .inr ⟨h.nx, rfl, by rw [alloc_nx]; omega, by rw [alloc_bl, if_pos rfl]⟩
      have happ2 := app_Own (P := Try.prog) ow1 3 8 (I 0) (LI (r.drop (j + 1))) (r.drop (j + 1)) isz3 ibytes3 izero3 rfl (cellsOf_L _ _) (lenA_L _ _) (by omega) (by omega)
      have ow2 := Own.app (f := e1 I) (sz := 1) (h.alloc (.cells false true ((r.take j).flatMap (e1 I)))) (.sl h.nx 0 (r.take j).length 1) (r.take j ++ r.drop (j + 1))
      have how2 : Go.Am.Own (e1 LI) 1 (h.alloc (.cells false true ((r.take j).flatMap (e1 I)))) v ((List.range i).map fun i => cutR (nth m (i + 1)) j) := how.mono (by rw [alloc_nx]; omega) fun id hid => by rw [alloc_bl, if_neg (by omega)]
      have hdis : Dis (.sl h.nx 0 (r.take j).length 1) v := by
        intro id off m s id' off' n' s' q1 q2
        cases q1
        rcases how with ⟨rfl, _⟩ | ⟨x, q, hx, _⟩
        · cases q2
        · rw [q] at q2; cases q2; omega
      have how3 := how2.keep hdis ((r.take j ++ r.drop (j + 1)).flatMap (e1 I))
      have hdis2 := how2.dis (r.take j ++ r.drop (j + 1)).length 1
      generalize hG : appH (h.alloc (.cells false true ((r.take j).flatMap (e1 I)))) (.sl h.nx 0 (r.take j).length 1) ((r.take j ++ r.drop (j + 1)).flatMap (e1 I)) = G at *
      generalize hv : appV (h.alloc (.cells false true ((r.take j).flatMap (e1 I)))) (r.take j ++ r.drop (j + 1)).length 1 = u at *
      obtain ⟨G2, z1, z2, z3⟩ := sealA_Own ow2
      have how4 : Go.Am.Own (e1 LI) 1 G2 v ((List.range i).map fun i => cutR (nth m (i + 1)) j) := by
        rcases how3 with o | ⟨id, w1, w2, w3⟩
        · exact .inl o
        · exact .inr ⟨id, w1, by omega, by rw [z3 id (fun id' off n s e => (hdis2 _ _ _ _ _ _ _ _ e w1).symm)]; exact w3⟩
      have hbs := bsB_one (P := Try.prog) 23 u (LI (r.take j ++ r.drop (j + 1))) .nil G2 isz23 izero23 rfl rfl rfl z1 rfl rfl (pure_L _)
      have happ3 := app_one (P := Try.prog) how4 23 24 .nil (r.take j ++ r.drop (j + 1)) isz23 ibytes23 izero23 rfl (by simp; omega) (by simp; omega)
      have e4 : ((j : Int) + 1) = ((j + 1 : Nat) : Int) := rfl
      have e5 : ((i : Int) + 1) = ((i + 1 : Nat) : Int) := rfl
      have him'' : ((i + 1 : Nat) : Int) < (m.length : Int) := by omega
      have hjl : j ≤ r.length := by omega
      have hjl2 : j + 1 ≤ r.length := by omega
      rw [e5] at s7
      simp (disch := first | (simp only [go_sem, gb0, eq_self]; done) | omega | (simp only [gl1, gl2]; omega)) only [go_sem, ↓reduceIte, Nat.reduceEqDiff, Nat.reduceAdd, Nat.reduceMul, Nat.reduceSub, Int.reduceToNat, Nat.reduceBEq, s0, s3, s4, s5, s6, s7, him, him'', hrr, hjl, hjl2, happ1, e4, happ2, hG, hv, hbs, happ3]
      rw [For1K_normal]
      refine ⟨hik, by (simp (disch := first | (simp only [go_sem, gb0, eq_self]; done) | omega | (simp only [gl1, gl2]; omega)) only [go_sem, ↓reduceIte, Nat.reduceEqDiff, Nat.reduceAdd, Nat.reduceMul, Nat.reduceSub, Int.reduceToNat, Nat.reduceBEq, s7]; rfl), by simp (disch := first | (simp only [go_sem, gb0, eq_self]; done) | omega | (simp only [gl1, gl2]; omega)) only [go_sem, ↓reduceIte, Nat.reduceEqDiff, Nat.reduceAdd, Nat.reduceMul, Nat.reduceSub, Int.reduceToNat, Nat.reduceBEq, s0], by simp (disch := first | (simp only [go_sem, gb0, eq_self]; done) | omega | (simp only [gl1, gl2]; omega)) only [go_sem, ↓reduceIte, Nat.reduceEqDiff, Nat.reduceAdd, Nat.reduceMul, Nat.reduceSub, Int.reduceToNat, Nat.reduceBEq, s3], by simp (disch := first | (simp only [go_sem, gb0, eq_self]; done) | omega | (simp only [gl1, gl2]; omega)) only [go_sem, ↓reduceIte, Nat.reduceEqDiff, Nat.reduceAdd, Nat.reduceMul, Nat.reduceSub, Int.reduceToNat, Nat.reduceBEq, s4], by simp (disch := first | (simp only [go_sem, gb0, eq_self]; done) | omega | (simp only [gl1, gl2]; omega)) only [go_sem, ↓reduceIte, Nat.reduceEqDiff, Nat.reduceAdd, Nat.reduceMul, Nat.reduceSub, Int.reduceToNat, Nat.reduceBEq, s5], _, by simp (disch := first | (simp only [go_sem, gb0, eq_self]; done) | omega | (simp only [gl1, gl2]; omega)) only [go_sem, ↓reduceIte, Nat.reduceEqDiff, Nat.reduceAdd, Nat.reduceMul, Nat.reduceSub, Int.reduceToNat, Nat.reduceBEq]; rfl, ?_⟩
      rw [← rows_snoc fun i => cutR (nth m (i + 1)) j, hcr]
      exact Own.app _ _ _
    · rintro st h ⟨s0, s3, s4, s5, v, s6, how⟩
      obtain ⟨g, hse, _⟩ := sealA_Own how
      have hprod : sg j * nth (nth m 0) j * det k (minorM (matL m) j) = f j := hfj.symm
      have hpb : -2000000000000000000 ≤ f j ∧ f j ≤ 2000000000000000000 := by
        have h1 : absI (f j) ≤ 1009 * 1009 ^ k := by
          rw [hfj, absI_mul, absI_mul]
          have h2 : absI (sg j) = 1 := by unfold absI sg; split <;> rfl
          rw [h2, Int.one_mul]
          exact Int.mul_le_mul (Int.le_trans hm0 hb0) (hB j hlt) (absI_nonneg _) (by decide)
        have h3 : (1009 : Int) * 1009 ^ k = 1009 ^ (k + 1) := by rw [Int.pow_succ, Int.mul_comm]
        rw [h3] at h1
        exact absI_le.1 (Int.le_trans h1 hpw)
      have hmb := mul_bd' (a := sg j) (b := nth (nth m 0) j) (A := 1) (B := 1009) (by omega) (by omega)
      rw [hstep] at hp2
      simp (disch := first | (simp only [go_sem, gb0, eq_self]; done) | omega | (simp only [gl1, gl2]; omega)) only [go_sem, ↓reduceIte, Nat.reduceEqDiff, Nat.reduceAdd, Nat.reduceMul, Nat.reduceSub, Int.reduceToNat, Nat.reduceBEq, s0, s3, s4, s5, s6, hpos, hpos', hj0, hj0', hse, k58, hprod]
      rw [ForK_normal]
      exact ⟨by omega, by simp (disch := first | (simp only [go_sem, gb0, eq_self]; done) | omega | (simp only [gl1, gl2]; omega)) only [go_sem, ↓reduceIte, Nat.reduceEqDiff, Nat.reduceAdd, Nat.reduceMul, Nat.reduceSub, Int.reduceToNat, Nat.reduceBEq, s5], by simp (disch := first | (simp only [go_sem, gb0, eq_self]; done) | omega | (simp only [gl1, gl2]; omega)) only [go_sem, ↓reduceIte, Nat.reduceEqDiff, Nat.reduceAdd, Nat.reduceMul, Nat.reduceSub, Int.reduceToNat, Nat.reduceBEq, s0], by (rw [hstep]; simp (disch := first | (simp only [go_sem, gb0, eq_self]; done) | omega | (simp only [gl1, gl2]; omega)) only [go_sem, ↓reduceIte, Nat.reduceEqDiff, Nat.reduceAdd, Nat.reduceMul, Nat.reduceSub, Int.reduceToNat, Nat.reduceBEq]), by (rw [hsgs]; simp (disch := first | (simp only [go_sem, gb0, eq_self]; done) | omega | (simp only [gl1, gl2]; omega)) only [go_sem, ↓reduceIte, Nat.reduceEqDiff, Nat.reduceAdd, Nat.reduceMul, Nat.reduceSub, Int.reduceToNat, Nat.reduceBEq]; congr 1; omega)⟩
end Go.Proofs.Ytgamcclfdkpcgaa

set_option linter.unusedVariables false
set_option linter.unusedSimpArgs false
set_option maxRecDepth 10000
namespace Go.Proofs.Ytgamcclfdkpcgaa
open Go Go.Am

variable {h h' : Hp} {K : AV → Hp → Prop}

/-- A run of numbers. -/
def vecA (f : Nat → Int) (N : Nat) : List AV := (List.range N).map fun k => I (f k)
theorem vecA_len (f : Nat → Int) (N : Nat) : (vecA f N).length = N := by simp [vecA]
@[go_sem] theorem vecA_get (f : Nat → Int) (N k : Nat) (hk : k < N) : (vecA f N)[k]? = some (I (f k)) := by
  rw [vecA, List.getElem?_map, List.getElem?_range hk]; rfl
/-- Part of a row replaced. -/
def rowM (X : Mat) (i m : Nat) (f : Nat → Int) : Mat := fun r k => if r = i ∧ k < m then f k else X r k
theorem rowM_zero (X : Mat) (i : Nat) (f : Nat → Int) : rowM X i 0 f = X := by funext r k; simp [rowM]
theorem rowM_step (X : Mat) (i m : Nat) (f : Nat → Int) : setM (rowM X i m f) i m (f m) = rowM X i (m + 1) f := by
  funext r k; unfold setM rowM
  by_cases hr : r = i
  · by_cases hk : k = m
    · subst hk; simp [hr]
    · have : (k < m) ↔ (k < m + 1) := by omega
      simp [hr, hk, this]
  · simp [hr]
theorem rowM_at (X : Mat) (i m : Nat) (f : Nat → Int) : rowM X i m f i m = X i m := by simp [rowM]
theorem gcdI_le {a b B : Int} (ha : absI a ≤ B) (hb : absI b ≤ B) : gcdI a b ≤ B := by
  by_cases h0 : b = 0
  · subst h0; rw [gcdI_zero]; exact ha
  · have hd : ((Int.gcd a b : Nat) : Int) ∣ b := Int.gcd_dvd_right a b
    have : Int.gcd a b ∣ b.natAbs := Int.natAbs_dvd_natAbs.2 hd
    have := Nat.le_of_dvd (by omega) this
    unfold absI at hb
    unfold gcdI; omega
theorem allG_le {f : Nat → Int} {B : Int} (hB : 0 ≤ B) : ∀ {m : Nat}, (∀ k, k < m → absI (f k) ≤ B) → allG f m ≤ B
  | 0, _ => hB
  | m + 1, h => by
    have h1 := allG_le hB fun k hk => h k (Nat.lt_succ_of_lt hk)
    have h2 := allG_nonneg f m
    exact gcdI_le (by unfold absI; omega) (h m (Nat.lt_succ_self m))

theorem f72_shr {X : Mat} {Y : Nat → Int} {id jd i c N : Nat} {row : Bool} (hij : id ≠ jd) (hi : i < 6) (hN : N ≤ 7) (hc : c < N)
    (hX : ∀ k, k < N → -4000000000 ≤ X i k ∧ X i k ≤ 4000000000) (hY : ∀ k, k < N → -4000000000 ≤ Y k ∧ Y k ≤ 4000000000) (hxc : -300000 ≤ X i c ∧ X i c ≤ 300000) (hyc : -300000 ≤ Y c ∧ Y c ≤ 300000) (hy0 : Y c ≠ 0) (n : Nat) (hn : N = n + 1) (h : Hp)
    (hid : id < h.nx) (hjd : jd < h.nx) (hb : h.bl id = some (.cells false false (matA X))) (hbj : h.bl jd = some (.cells false row (vecA Y N))) :
    ∃ h', Shr Try.prog cfg 72 [.sl id (i * 7) N 1, .sl jd 0 N 1, I c] h (.tup []) h' ∧ (h'.nx = h.nx ∧ h'.bl id = some (.cells false false (matA (rowM X i N (elimP (X i) Y c n)))) ∧ ∀ k, k ≠ id → h'.bl k = h.bl k) := by
  suffices hh : ∃ v h', Shr Try.prog cfg 72 [.sl id (i * 7) N 1, .sl jd 0 N 1, I c] h v h' ∧ (v = .tup [] ∧ (h'.nx = h.nx ∧ h'.bl id = some (.cells false false (matA (rowM X i N (elimP (X i) Y c n)))) ∧ ∀ k, k ≠ id → h'.bl k = h.bl k)) by
    obtain ⟨v, h', hs, rfl, r⟩ := hh
    exact ⟨h', hs, r⟩
  obtain ⟨x, hx⟩ : ∃ x, x = X i c := ⟨_, rfl⟩
  obtain ⟨y, hy⟩ : ∃ y, y = Y c := ⟨_, rfl⟩
  have hg := gcdI_pos (a := x) (b := y) (by rw [hy]; exact hy0)
  have hxc' : -300000 ≤ x ∧ x ≤ 300000 := by rw [hx]; exact hxc
  have hyc' : -300000 ≤ y ∧ y ≤ 300000 := by rw [hy]; exact hyc
  have kg := fun h h' K => k79 (h := h) (h' := h') (K := K) x y (by simp only [big]; omega) (by simp only [big]; omega)
  have t1 := tdiv_gcd_l x y
  have t2 := tdiv_gcd_r x y
  have r1 := div_rng hg (gcdI_dvd x y).1
  have r2 := div_rng hg (gcdI_dvd x y).2
  have hf : ∀ k, elimR (X i) Y c k = X i k * (y / gcdI x y) - Y k * (x / gcdI x y) := fun k => by unfold elimR; rw [hx, hy]
  obtain ⟨f, hff⟩ : ∃ f, f = elimR (X i) Y c := ⟨_, rfl⟩
  have hP : ∀ k, elimP (X i) Y c n k = if 1 < allG f N then f k / allG f N else f k := fun k => by unfold elimP; rw [hff, hn]
  rw [← hff] at hf
  have hXc : X i c = x := hx.symm
  have hYc : Y c = y := hy.symm
  rw [hXc] at hxc
  rw [hYc] at hyc hy0
  have hcN : (c : Int) < N := by omega
  have hc7 : c < 7 := by omega
  generalize gcdI x y = g at *
  have g0 : ¬ g = 0 := by omega
  have m1 : ∀ k, k < N → (-1200000000000000 ≤ X i k * (y / g) ∧ X i k * (y / g) ≤ 1200000000000000) ∧ (-1200000000000000 ≤ Y k * (x / g) ∧ Y k * (x / g) ≤ 1200000000000000) := fun k hk => by
    have h1 := hX k hk
    have h2 := hY k hk
    have mm : ∀ {a b : Int}, absI a ≤ 4000000000 → absI b ≤ 300000 → -1200000000000000 ≤ a * b ∧ a * b ≤ 1200000000000000 := fun ha hb => by
      refine absI_le.1 ?_
      rw [absI_mul]
      exact Int.mul_le_mul ha hb (absI_nonneg _) (by decide)
    exact ⟨mm (absI_le.2 h1) (by unfold absI; omega), mm (absI_le.2 h2) (by unfold absI; omega)⟩
  have hfb : ∀ k, k < N → absI (f k) ≤ 2400000000000000 := fun k hk => by rw [hf]; have := m1 k hk; unfold absI; omega
  refine Shr_intro Try.func72 rfl ok72 (Nat.le_of_ble_eq_true rfl) ?_
  simp only [Try.f72, Option.getD_some, initSt3]
  simp (disch := first | (simp only [go_sem, gb0, eq_self]; done) | omega | (simp only [gl1, gl2]; omega)) only [go_sem, ↓reduceIte, Nat.reduceEqDiff, Nat.reduceAdd, Nat.reduceMul, Nat.reduceSub, Int.reduceToNat, Nat.reduceBEq, hb, hbj, hcN, hc, hc7, hi, hXc, hYc, kg, t1, t2, g0]
  refine WP_cut (fun st g' => st 0 = .sl id (i * 7) N 1 ∧ st 1 = .sl jd 0 N 1 ∧ st 6 = I (x / g) ∧ st 7 = I (y / g) ∧ st 29 = .sl id (i * 7) N 1 ∧ st 30 = I N ∧ g'.nx = h.nx ∧ g'.bl id = some (.cells false false (matA (rowM X i N f))) ∧ (∀ k, k ≠ id → g'.bl k = h.bl k) ∧ st 9 = I (allG f N)) ?_ ?_
  · refine WP_for 31 N (fun m st g' => st 0 = .sl id (i * 7) N 1 ∧ st 1 = .sl jd 0 N 1 ∧ st 6 = I (x / g) ∧ st 7 = I (y / g) ∧ st 29 = .sl id (i * 7) N 1 ∧ st 30 = I N ∧ g'.nx = h.nx ∧ g'.bl id = some (.cells false false (matA (rowM X i m f))) ∧ (∀ k, k ≠ id → g'.bl k = h.bl k) ∧ st 9 = I (allG f m)) (by simp (disch := first | (simp only [go_sem, gb0, eq_self]; done) | omega | (simp only [gl1, gl2]; omega)) only [go_sem, ↓reduceIte, Nat.reduceEqDiff, Nat.reduceAdd, Nat.reduceMul, Nat.reduceSub, Int.reduceToNat, Nat.reduceBEq]) ⟨by simp (disch := first | (simp only [go_sem, gb0, eq_self]; done) | omega | (simp only [gl1, gl2]; omega)) only [go_sem, ↓reduceIte, Nat.reduceEqDiff, Nat.reduceAdd, Nat.reduceMul, Nat.reduceSub, Int.reduceToNat, Nat.reduceBEq], by simp (disch := first | (simp only [go_sem, gb0, eq_self]; done) | omega | (simp only [gl1, gl2]; omega)) only [go_sem, ↓reduceIte, Nat.reduceEqDiff, Nat.reduceAdd, Nat.reduceMul, Nat.reduceSub, Int.reduceToNat, Nat.reduceBEq], by simp (disch := first | (simp only [go_sem, gb0, eq_self]; done) | omega | (simp only [gl1, gl2]; omega)) only [go_sem, ↓reduceIte, Nat.reduceEqDiff, Nat.reduceAdd, Nat.reduceMul, Nat.reduceSub, Int.reduceToNat, Nat.reduceBEq], by simp (disch := first | (simp only [go_sem, gb0, eq_self]; done) | omega | (simp only [gl1, gl2]; omega)) only [go_sem, ↓reduceIte, Nat.reduceEqDiff, Nat.reduceAdd, Nat.reduceMul, Nat.reduceSub, Int.reduceToNat, Nat.reduceBEq], by simp (disch := first | (simp only [go_sem, gb0, eq_self]; done) | omega | (simp only [gl1, gl2]; omega)) only [go_sem, ↓reduceIte, Nat.reduceEqDiff, Nat.reduceAdd, Nat.reduceMul, Nat.reduceSub, Int.reduceToNat, Nat.reduceBEq], by simp (disch := first | (simp only [go_sem, gb0, eq_self]; done) | omega | (simp only [gl1, gl2]; omega)) only [go_sem, ↓reduceIte, Nat.reduceEqDiff, Nat.reduceAdd, Nat.reduceMul, Nat.reduceSub, Int.reduceToNat, Nat.reduceBEq], rfl, by rw [rowM_zero]; exact hb, fun _ _ => rfl, by simp (disch := first | (simp only [go_sem, gb0, eq_self]; done) | omega | (simp only [gl1, gl2]; omega)) only [go_sem, ↓reduceIte, Nat.reduceEqDiff, Nat.reduceAdd, Nat.reduceMul, Nat.reduceSub, Int.reduceToNat, Nat.reduceBEq]; rfl⟩ ?_
    rintro m st g' hm s31 ⟨s0, s1, s6, s7, s29, s30, hnx, b0, bo, s9⟩
    by_cases hlt : m < N
    case neg =>
      have hme : m = N := by omega
      subst hme
      simp (disch := first | (simp only [go_sem, gb0, eq_self]; done) | omega | (simp only [gl1, gl2]; omega)) only [go_sem, ↓reduceIte, Nat.reduceEqDiff, Nat.reduceAdd, Nat.reduceMul, Nat.reduceSub, Int.reduceToNat, Nat.reduceBEq, s0, s1, s6, s7, s29, s30, s9, s31, hlt, b0]
      exact ⟨hnx, bo⟩
    have hm7 : m < 7 := by omega
    have hji : ¬ jd = id := fun e => hij e.symm
    have bj : g'.bl jd = some (.cells false row (vecA Y N)) := (bo jd hji).trans hbj
    have hv := rowM_at X i m f
    have hst := rowM_step X i m f
    have hmm := m1 m hlt
    have hfm := hf m
    have hfb' := absI_le.1 (hfb m hlt)
    have hg1 := allG_nonneg f m
    have hg2 := allG_le (f := f) (B := 2400000000000000) (by decide) (m := m) fun k hk => hfb k (by omega)
    have hid' : id < g'.nx := by omega
    have hjd' : jd < g'.nx := by omega
    have kk := fun h h' K => k79 (h := h) (h' := h') (K := K) (allG f m) (f m) (by simp only [big]; omega) (by simp only [big]; omega)
    rw [hfm] at hst kk
    have hv2 : rowM X i (m + 1) f i m = X i m * (y / g) - Y m * (x / g) := by rw [← hfm]; simp [rowM]
    simp (disch := first | (simp only [go_sem, gb0, eq_self]; done) | omega | (simp only [gl1, gl2]; omega)) only [go_sem, ↓reduceIte, Nat.reduceEqDiff, Nat.reduceAdd, Nat.reduceMul, Nat.reduceSub, Int.reduceToNat, Nat.reduceBEq, s0, s1, s6, s7, s29, s30, s9, s31, hlt, hm7, hi, b0, bj, hid', hjd', hv, hst, hv2, kk]
    rw [ForK_normal]
    refine ⟨hlt, by simp (disch := first | (simp only [go_sem, gb0, eq_self]; done) | omega | (simp only [gl1, gl2]; omega)) only [go_sem, ↓reduceIte, Nat.reduceEqDiff, Nat.reduceAdd, Nat.reduceMul, Nat.reduceSub, Int.reduceToNat, Nat.reduceBEq, s31], by simp (disch := first | (simp only [go_sem, gb0, eq_self]; done) | omega | (simp only [gl1, gl2]; omega)) only [go_sem, ↓reduceIte, Nat.reduceEqDiff, Nat.reduceAdd, Nat.reduceMul, Nat.reduceSub, Int.reduceToNat, Nat.reduceBEq, s0], by simp (disch := first | (simp only [go_sem, gb0, eq_self]; done) | omega | (simp only [gl1, gl2]; omega)) only [go_sem, ↓reduceIte, Nat.reduceEqDiff, Nat.reduceAdd, Nat.reduceMul, Nat.reduceSub, Int.reduceToNat, Nat.reduceBEq, s1], by simp (disch := first | (simp only [go_sem, gb0, eq_self]; done) | omega | (simp only [gl1, gl2]; omega)) only [go_sem, ↓reduceIte, Nat.reduceEqDiff, Nat.reduceAdd, Nat.reduceMul, Nat.reduceSub, Int.reduceToNat, Nat.reduceBEq, s6], by simp (disch := first | (simp only [go_sem, gb0, eq_self]; done) | omega | (simp only [gl1, gl2]; omega)) only [go_sem, ↓reduceIte, Nat.reduceEqDiff, Nat.reduceAdd, Nat.reduceMul, Nat.reduceSub, Int.reduceToNat, Nat.reduceBEq, s7], by simp (disch := first | (simp only [go_sem, gb0, eq_self]; done) | omega | (simp only [gl1, gl2]; omega)) only [go_sem, ↓reduceIte, Nat.reduceEqDiff, Nat.reduceAdd, Nat.reduceMul, Nat.reduceSub, Int.reduceToNat, Nat.reduceBEq, s29], by simp (disch := first | (simp only [go_sem, gb0, eq_self]; done) | omega | (simp only [gl1, gl2]; omega)) only [go_sem, ↓reduceIte, Nat.reduceEqDiff, Nat.reduceAdd, Nat.reduceMul, Nat.reduceSub, Int.reduceToNat, Nat.reduceBEq, s30], by simp (disch := first | (simp only [go_sem, gb0, eq_self]; done) | omega | (simp only [gl1, gl2]; omega)) only [go_sem, ↓reduceIte, Nat.reduceEqDiff, Nat.reduceAdd, Nat.reduceMul, Nat.reduceSub, Int.reduceToNat, Nat.reduceBEq, hnx], by simp (disch := first | (simp only [go_sem, gb0, eq_self]; done) | omega | (simp only [gl1, gl2]; omega)) only [go_sem, ↓reduceIte, Nat.reduceEqDiff, Nat.reduceAdd, Nat.reduceMul, Nat.reduceSub, Int.reduceToNat, Nat.reduceBEq], fun k hk => ?_, ?_⟩
    · simp (disch := first | (simp only [go_sem, gb0, eq_self]; done) | omega | (simp only [gl1, gl2]; omega)) only [go_sem, ↓reduceIte, Nat.reduceEqDiff, Nat.reduceAdd, Nat.reduceMul, Nat.reduceSub, Int.reduceToNat, Nat.reduceBEq, hk]; exact bo k hk
    · simp (disch := first | (simp only [go_sem, gb0, eq_self]; done) | omega | (simp only [gl1, gl2]; omega)) only [go_sem, ↓reduceIte, Nat.reduceEqDiff, Nat.reduceAdd, Nat.reduceMul, Nat.reduceSub, Int.reduceToNat, Nat.reduceBEq]; rw [allG, hfm]
  · rintro st g' ⟨s0, s1, s6, s7, s29, s30, hnx, b0, bo, s9⟩
    by_cases hall : 1 < allG f N
    · have hPf : ∀ k, elimP (X i) Y c n k = f k / allG f N := fun k => by rw [hP, if_pos hall]
      have hPf2 : elimP (X i) Y c n = fun k => f k / allG f N := funext hPf
      rw [hPf2]
      have hdv := fun k hk => allG_dvd f N k hk
      generalize allG f N = G at *
      simp (disch := first | (simp only [go_sem, gb0, eq_self]; done) | omega | (simp only [gl1, gl2]; omega)) only [go_sem, ↓reduceIte, Nat.reduceEqDiff, Nat.reduceAdd, Nat.reduceMul, Nat.reduceSub, Int.reduceToNat, Nat.reduceBEq, s0, s1, s6, s7, s29, s30, s9, hall]
      refine WP_for 61 N (fun m st g' => st 0 = .sl id (i * 7) N 1 ∧ st 1 = .sl jd 0 N 1 ∧ st 6 = I (x / g) ∧ st 7 = I (y / g) ∧ st 29 = .sl id (i * 7) N 1 ∧ st 30 = I N ∧ st 59 = .sl id (i * 7) N 1 ∧ st 60 = I N ∧ st 9 = I G ∧ g'.nx = h.nx ∧ g'.bl id = some (.cells false false (matA (rowM (rowM X i N f) i m fun k => f k / G))) ∧ (∀ k, k ≠ id → g'.bl k = h.bl k)) (by simp (disch := first | (simp only [go_sem, gb0, eq_self]; done) | omega | (simp only [gl1, gl2]; omega)) only [go_sem, ↓reduceIte, Nat.reduceEqDiff, Nat.reduceAdd, Nat.reduceMul, Nat.reduceSub, Int.reduceToNat, Nat.reduceBEq]) ⟨by simp (disch := first | (simp only [go_sem, gb0, eq_self]; done) | omega | (simp only [gl1, gl2]; omega)) only [go_sem, ↓reduceIte, Nat.reduceEqDiff, Nat.reduceAdd, Nat.reduceMul, Nat.reduceSub, Int.reduceToNat, Nat.reduceBEq, s0], by simp (disch := first | (simp only [go_sem, gb0, eq_self]; done) | omega | (simp only [gl1, gl2]; omega)) only [go_sem, ↓reduceIte, Nat.reduceEqDiff, Nat.reduceAdd, Nat.reduceMul, Nat.reduceSub, Int.reduceToNat, Nat.reduceBEq, s1], by simp (disch := first | (simp only [go_sem, gb0, eq_self]; done) | omega | (simp only [gl1, gl2]; omega)) only [go_sem, ↓reduceIte, Nat.reduceEqDiff, Nat.reduceAdd, Nat.reduceMul, Nat.reduceSub, Int.reduceToNat, Nat.reduceBEq, s6], by simp (disch := first | (simp only [go_sem, gb0, eq_self]; done) | omega | (simp only [gl1, gl2]; omega)) only [go_sem, ↓reduceIte, Nat.reduceEqDiff, Nat.reduceAdd, Nat.reduceMul, Nat.reduceSub, Int.reduceToNat, Nat.reduceBEq, s7], by simp (disch := first | (simp only [go_sem, gb0, eq_self]; done) | omega | (simp only [gl1, gl2]; omega)) only [go_sem, ↓reduceIte, Nat.reduceEqDiff, Nat.reduceAdd, Nat.reduceMul, Nat.reduceSub, Int.reduceToNat, Nat.reduceBEq, s29], by simp (disch := first | (simp only [go_sem, gb0, eq_self]; done) | omega | (simp only [gl1, gl2]; omega)) only [go_sem, ↓reduceIte, Nat.reduceEqDiff, Nat.reduceAdd, Nat.reduceMul, Nat.reduceSub, Int.reduceToNat, Nat.reduceBEq, s30], by simp (disch := first | (simp only [go_sem, gb0, eq_self]; done) | omega | (simp only [gl1, gl2]; omega)) only [go_sem, ↓reduceIte, Nat.reduceEqDiff, Nat.reduceAdd, Nat.reduceMul, Nat.reduceSub, Int.reduceToNat, Nat.reduceBEq], by simp (disch := first | (simp only [go_sem, gb0, eq_self]; done) | omega | (simp only [gl1, gl2]; omega)) only [go_sem, ↓reduceIte, Nat.reduceEqDiff, Nat.reduceAdd, Nat.reduceMul, Nat.reduceSub, Int.reduceToNat, Nat.reduceBEq], by simp (disch := first | (simp only [go_sem, gb0, eq_self]; done) | omega | (simp only [gl1, gl2]; omega)) only [go_sem, ↓reduceIte, Nat.reduceEqDiff, Nat.reduceAdd, Nat.reduceMul, Nat.reduceSub, Int.reduceToNat, Nat.reduceBEq, s9], hnx, by rw [rowM_zero]; exact b0, bo⟩ ?_
      rintro m st g' hm s61 ⟨s0, s1, s6, s7, s29, s30, s59, s60, s9, hnx, b0, bo⟩
      by_cases hlt : m < N
      case neg =>
        have hme : m = N := by omega
        subst hme
        have hfin : matA (rowM (rowM X i m f) i m fun k => f k / G) = matA (rowM X i m fun k => f k / G) := matA_congr fun r k _ _ => by
          unfold rowM
          by_cases hc : r = i ∧ k < m
          · rw [if_pos hc, if_pos hc]
          · rw [if_neg hc, if_neg hc, if_neg hc]
        rw [hfin] at b0
        simp (disch := first | (simp only [go_sem, gb0, eq_self]; done) | omega | (simp only [gl1, gl2]; omega)) only [go_sem, ↓reduceIte, Nat.reduceEqDiff, Nat.reduceAdd, Nat.reduceMul, Nat.reduceSub, Int.reduceToNat, Nat.reduceBEq, s0, s1, s6, s7, s29, s30, s59, s60, s9, s61, hlt]
        exact ⟨hnx, b0, bo⟩
      have hm7 : m < 7 := by omega
      have hv : rowM (rowM X i N f) i m (fun k => f k / G) i m = f m := by
        unfold rowM; rw [if_neg (by omega), if_pos ⟨rfl, hlt⟩]
      have hst := rowM_step (rowM X i N f) i m (fun k => f k / G)
      have htd : (f m).tdiv G = f m / G := Int.tdiv_eq_ediv_of_dvd (hdv m hlt)
      have hG0 : ¬ G = 0 := by omega
      have hrg := div_rng (show 0 < G by omega) (hdv m hlt)
      have hfb' := absI_le.1 (hfb m hlt)
      have hfb2 := hfb m hlt
      unfold absI at hfb2
      simp (disch := first | (simp only [go_sem, gb0, eq_self]; done) | omega | (simp only [gl1, gl2]; omega)) only [go_sem, ↓reduceIte, Nat.reduceEqDiff, Nat.reduceAdd, Nat.reduceMul, Nat.reduceSub, Int.reduceToNat, Nat.reduceBEq, s0, s1, s6, s7, s29, s30, s59, s60, s9, s61, hlt, hm7, hi, b0, hv, hst, htd, hG0]
      rw [ForK_normal]
      refine ⟨hlt, by simp (disch := first | (simp only [go_sem, gb0, eq_self]; done) | omega | (simp only [gl1, gl2]; omega)) only [go_sem, ↓reduceIte, Nat.reduceEqDiff, Nat.reduceAdd, Nat.reduceMul, Nat.reduceSub, Int.reduceToNat, Nat.reduceBEq, s61], by simp (disch := first | (simp only [go_sem, gb0, eq_self]; done) | omega | (simp only [gl1, gl2]; omega)) only [go_sem, ↓reduceIte, Nat.reduceEqDiff, Nat.reduceAdd, Nat.reduceMul, Nat.reduceSub, Int.reduceToNat, Nat.reduceBEq, s0], by simp (disch := first | (simp only [go_sem, gb0, eq_self]; done) | omega | (simp only [gl1, gl2]; omega)) only [go_sem, ↓reduceIte, Nat.reduceEqDiff, Nat.reduceAdd, Nat.reduceMul, Nat.reduceSub, Int.reduceToNat, Nat.reduceBEq, s1], by simp (disch := first | (simp only [go_sem, gb0, eq_self]; done) | omega | (simp only [gl1, gl2]; omega)) only [go_sem, ↓reduceIte, Nat.reduceEqDiff, Nat.reduceAdd, Nat.reduceMul, Nat.reduceSub, Int.reduceToNat, Nat.reduceBEq, s6], by simp (disch := first | (simp only [go_sem, gb0, eq_self]; done) | omega | (simp only [gl1, gl2]; omega)) only [go_sem, ↓reduceIte, Nat.reduceEqDiff, Nat.reduceAdd, Nat.reduceMul, Nat.reduceSub, Int.reduceToNat, Nat.reduceBEq, s7], by simp (disch := first | (simp only [go_sem, gb0, eq_self]; done) | omega | (simp only [gl1, gl2]; omega)) only [go_sem, ↓reduceIte, Nat.reduceEqDiff, Nat.reduceAdd, Nat.reduceMul, Nat.reduceSub, Int.reduceToNat, Nat.reduceBEq, s29], by simp (disch := first | (simp only [go_sem, gb0, eq_self]; done) | omega | (simp only [gl1, gl2]; omega)) only [go_sem, ↓reduceIte, Nat.reduceEqDiff, Nat.reduceAdd, Nat.reduceMul, Nat.reduceSub, Int.reduceToNat, Nat.reduceBEq, s30], by simp (disch := first | (simp only [go_sem, gb0, eq_self]; done) | omega | (simp only [gl1, gl2]; omega)) only [go_sem, ↓reduceIte, Nat.reduceEqDiff, Nat.reduceAdd, Nat.reduceMul, Nat.reduceSub, Int.reduceToNat, Nat.reduceBEq, s59], by simp (disch := first | (simp only [go_sem, gb0, eq_self]; done) | omega | (simp only [gl1, gl2]; omega)) only [go_sem, ↓reduceIte, Nat.reduceEqDiff, Nat.reduceAdd, Nat.reduceMul, Nat.reduceSub, Int.reduceToNat, Nat.reduceBEq, s60], by simp (disch := first | (simp only [go_sem, gb0, eq_self]; done) | omega | (simp only [gl1, gl2]; omega)) only [go_sem, ↓reduceIte, Nat.reduceEqDiff, Nat.reduceAdd, Nat.reduceMul, Nat.reduceSub, Int.reduceToNat, Nat.reduceBEq, s9], by simp (disch := first | (simp only [go_sem, gb0, eq_self]; done) | omega | (simp only [gl1, gl2]; omega)) only [go_sem, ↓reduceIte, Nat.reduceEqDiff, Nat.reduceAdd, Nat.reduceMul, Nat.reduceSub, Int.reduceToNat, Nat.reduceBEq, hnx], by simp (disch := first | (simp only [go_sem, gb0, eq_self]; done) | omega | (simp only [gl1, gl2]; omega)) only [go_sem, ↓reduceIte, Nat.reduceEqDiff, Nat.reduceAdd, Nat.reduceMul, Nat.reduceSub, Int.reduceToNat, Nat.reduceBEq], fun k hk => ?_⟩
      simp (disch := first | (simp only [go_sem, gb0, eq_self]; done) | omega | (simp only [gl1, gl2]; omega)) only [go_sem, ↓reduceIte, Nat.reduceEqDiff, Nat.reduceAdd, Nat.reduceMul, Nat.reduceSub, Int.reduceToNat, Nat.reduceBEq, hk]; exact bo k hk
    · have hPf : elimP (X i) Y c n = f := funext fun k => by rw [hP, if_neg hall]
      rw [hPf]
      simp (disch := first | (simp only [go_sem, gb0, eq_self]; done) | omega | (simp only [gl1, gl2]; omega)) only [go_sem, ↓reduceIte, Nat.reduceEqDiff, Nat.reduceAdd, Nat.reduceMul, Nat.reduceSub, Int.reduceToNat, Nat.reduceBEq, s0, s1, s6, s7, s29, s30, s9, hall]
      exact ⟨hnx, b0, bo⟩
end Go.Proofs.Ytgamcclfdkpcgaa

set_option linter.unusedVariables false
set_option linter.unusedSimpArgs false
set_option maxRecDepth 10000
namespace Go.Proofs.Ytgamcclfdkpcgaa
open Go Go.Am

variable {h h' : Hp} {K : AV → Hp → Prop}

/-- The values of a rule, as fractions. -/
noncomputable def valL (nx : List (List Int)) (pay cost : List Int) (x : Nat) : List (Int × Int) :=
  (List.range nx.length).map fun i => rdP (VN nx.length (wF nx) (pF pay) (pF cost) (ruleB x) i) (DN nx.length (wF nx) (pF pay) (pF cost) (ruleB x))
theorem elimP_congr {row row' by_ by' : Nat → Int} {c n : Nat} (hc : c ≤ n) (h1 : ∀ k, k ≤ n → row k = row' k) (h2 : ∀ k, k ≤ n → by_ k = by' k) : ∀ k, k ≤ n → elimP row by_ c n k = elimP row' by' c n k := by
  have e : ∀ k, k ≤ n → elimR row by_ c k = elimR row' by' c k := fun k hk => by unfold elimR; rw [h1 k hk, h2 k hk, h1 c hc, h2 c hc]
  have g : ∀ m, m ≤ n + 1 → allG (elimR row by_ c) m = allG (elimR row' by' c) m := by
    intro m
    induction m with
    | zero => intro _; rfl
    | succ m ih => intro hm; rw [allG, allG, ih (by omega), e m (by omega)]
  intro k hk
  unfold elimP
  rw [g _ (Nat.le_refl _), e k hk]
theorem put_same {id : Nat} {b : Option Blk} (hb : h.bl id = b) : h.put id b = h := by
  cases h
  simp only [Hp.put, Hp.mk.injEq, true_and]
  funext k
  split
  · rename_i e; rw [e]; exact hb.symm
  · rfl
def rowA (X : Mat) (i : Nat) : List AV := vecA (X i) 7
theorem matA_row (X : Mat) (i : Nat) (hi : i < 6) (N : Nat) (hN : N ≤ 7) : ((matA X).drop (i * 7)).take N = vecA (X i) N := by
  refine List.ext_getElem? fun k => ?_
  by_cases hk : k < N
  · rw [List.getElem?_take_of_lt hk, List.getElem?_drop, matA_get _ _ _ hi (by omega), vecA_get _ _ _ hk]
  · rw [List.getElem?_eq_none (by rw [List.length_take]; omega), List.getElem?_eq_none (by rw [vecA_len]; omega)]
@[go_sem] theorem matA_loadrow (X : Mat) (i : Nat) (hi : i < 6) : loadC (some (.array 7 3)) (some 7) (some (matA X, i * 7)) = some (.agg (rowA X i)) := by
  rw [loadC_agg (.array 7 3) 7 rfl _ _ (by rw [matA_len]; omega), matA_row _ _ hi _ (Nat.le_refl _)]; rfl
theorem setL_same (xs : List AV) : ∀ (ys : List AV) (off : Nat), (∀ k, k < ys.length → xs[off + k]? = ys[k]?) → setL xs off ys = xs
  | [], _, _ => rfl
  | y :: ys, off, h => by
    have h0 := h 0 (by simp)
    rw [setL]
    have : xs.set off y = xs := by
      refine List.ext_getElem? fun k => ?_
      rw [List.getElem?_set]
      split
      · rename_i e
        subst e
        simp only [Nat.add_zero, List.getElem?_cons_zero] at h0
        rw [h0]
        split
        · rfl
        · rename_i hl; rw [List.getElem?_eq_none (by omega)] at h0; cases h0
      · rfl
    rw [this]
    refine setL_same xs ys (off + 1) fun k hk => ?_
    have := h (k + 1) (by simp; omega)
    rw [List.getElem?_cons_succ] at this
    rw [← this]; congr 1; omega
@[go_sem] theorem matA_storerow (X : Mat) (id i : Nat) (hi : i < 6) : storeC h id (i * 7) 7 (some (.cells false false (matA X))) (rowA X i) = some (.skp, h.put id (some (.cells false false (matA X)))) := by
  rw [storeC_many id _ 7 false _ (rowA X i) (vecA_len _ _) (List.all_eq_true.2 fun x hx => by obtain ⟨k, _, rfl⟩ := List.mem_map.1 hx; rfl) (by rw [matA_len]; omega)]
  rw [setL_same _ _ _ fun k hk => ?_]
  rw [rowA, vecA_len] at hk
  rw [matA_get _ _ _ hi hk, rowA, vecA_get _ _ _ hk]
@[go_sem] theorem AV_cells_agg (cs : List AV) : (AV.agg cs).cells = cs := rfl
theorem sliceC_row (X : Mat) (id i N : Nat) (fz : Bool) (hi : i < 6) (hN : N ≤ 7) : sliceC (some 1) 7 (i * 7) id none (some (I N)) (some (.cells fz false (matA X))) true = some (.sl id (i * 7) N 1) := by
  have : (7 : Nat) ≤ maxLen := by decide
  have hfl := matA_len X
  generalize matA X = fl at hfl
  have h1 : i * 7 + 7 ≤ 42 := by omega
  have h2 : (N : Int) ≤ 7 := by omega
  simp [sliceC, hiB, loB, boundA, hfl, this, h1, h2]
theorem copyC_vec (hp : Hp) (id N : Nat) (row : Bool) (zs : List AV) (f : Nat → Int) (hz : zs.length = N) (e : Nat) :
    copyC hp (some (.slice e)) (some 1) (.sl id 0 N 1) (some (.cells false row zs)) (some (vecA f N)) (some N) = some (I N, hp.put id (some (.cells false row (vecA f N)))) := by
  have h1 : (vecA f N).all AV.isCell = true := List.all_eq_true.2 fun x hx => by obtain ⟨k, _, rfl⟩ := List.mem_map.1 hx; rfl
  unfold copyC; dsimp only
  rw [if_pos ⟨rfl, by decide, by rw [vecA_len]; omega, by omega, h1⟩, Nat.min_self, List.take_of_length_le (by rw [vecA_len]; omega)]
  have := setL_all zs (vecA f N) [] (by rw [vecA_len, hz])
  simp only [List.nil_append, List.length_nil] at this
  rw [this]
theorem cells_row (X : Mat) (hp : Hp) (id i N : Nat) (fz row : Bool) (hi : i < 6) (hN : N ≤ 7) (hb : hp.bl id = some (.cells fz row (matA X))) : cellsOf hp none (.sl id (i * 7) N 1) = some (vecA (X i) N) := by
  have h1 : i * 7 + N ≤ 42 := by omega
  simp only [cellsOf, rd, hb, lims_none, if_true, Option.bind_some, matA_len, Nat.mul_one, h1, matA_row X i hi N hN]

theorem f55_S {nx : List (List Int)} {pay cost : List Int} (C : okC nx pay cost) (x : Nat) (hs : sndP nx.length (wF nx) (ruleB x)) : ∃ v h', Shr Try.prog cfg 55 [eqR nx pay cost x, I nx.length] Hp.empty v h' ∧ Go.Am.Own eP 2 h' v (valL nx pay cost x) := by
  obtain ⟨n, hn⟩ : ∃ n, n = nx.length := ⟨_, rfl⟩
  have hn1 := C.n1
  have hn6 := C.n6
  have S := sys_of C.chn hs
  obtain ⟨M, hM⟩ : ∃ M, M = eqM nx.length (wF nx) (pF pay) (pF cost) (ruleB x) := ⟨_, rfl⟩
  have hM' : eqM nx.length (fun i j => nth (nth nx i) j) (fun i => nth pay i) (fun i => nth cost i) (ruleB x) = M := hM.symm
  rw [hM', ← hn] at S
  have hal : ∀ g : Hp, allocB g (some (eqR nx pay cost x)) = some (.ptr g.nx 0, g.alloc (.cells false false (matA (eqX nx pay cost x nx.length)))) := fun g => allocB_agg _ (matA_cell _)
  have hX0 : ∀ i k, i < n → k ≤ n → eqX nx pay cost x nx.length i k = XE n M 0 i k := fun i k hi hk => by
    unfold eqX; rw [if_pos ⟨by omega, by omega⟩, XE, hM]
  generalize eqX nx pay cost x nx.length = X0 at *
  rw [← hn]
  refine Shr_intro (h := Hp.empty) Try.func55 rfl ok55 (Nat.le_of_ble_eq_true rfl) ?_
  simp only [Try.f55, Option.getD_some, initSt2]
  simp (disch := first | (simp only [go_sem, gb0, eq_self]; done) | omega | (simp only [gl1, gl2]; omega)) only [go_sem, ↓reduceIte, Nat.reduceEqDiff, Nat.reduceAdd, Nat.reduceMul, Nat.reduceSub, Int.reduceToNat, Nat.reduceBEq, hal]
  refine WP_cut (fun st h => st 1 = I n ∧ st 2 = .ptr 0 0 ∧ ∃ X, h.bl 0 = some (.cells false false (matA X)) ∧ 0 < h.nx ∧ ∀ i k, i < n → k ≤ n → X i k = XE n M n i k) ?_ ?_
  · refine WP_for 12 n (fun c st h => st 1 = I n ∧ st 2 = .ptr 0 0 ∧ st 4 = .nil ∧ st 11 = I n ∧ ∃ X, h.bl 0 = some (.cells false false (matA X)) ∧ 0 < h.nx ∧ ∀ i k, i < n → k ≤ n → X i k = XE n M c i k) (by simp (disch := first | (simp only [go_sem, gb0, eq_self]; done) | omega | (simp only [gl1, gl2]; omega)) only [go_sem, ↓reduceIte, Nat.reduceEqDiff, Nat.reduceAdd, Nat.reduceMul, Nat.reduceSub, Int.reduceToNat, Nat.reduceBEq]) ⟨by simp (disch := first | (simp only [go_sem, gb0, eq_self]; done) | omega | (simp only [gl1, gl2]; omega)) only [go_sem, ↓reduceIte, Nat.reduceEqDiff, Nat.reduceAdd, Nat.reduceMul, Nat.reduceSub, Int.reduceToNat, Nat.reduceBEq], by simp (disch := first | (simp only [go_sem, gb0, eq_self]; done) | omega | (simp only [gl1, gl2]; omega)) only [go_sem, ↓reduceIte, Nat.reduceEqDiff, Nat.reduceAdd, Nat.reduceMul, Nat.reduceSub, Int.reduceToNat, Nat.reduceBEq], by simp (disch := first | (simp only [go_sem, gb0, eq_self]; done) | omega | (simp only [gl1, gl2]; omega)) only [go_sem, ↓reduceIte, Nat.reduceEqDiff, Nat.reduceAdd, Nat.reduceMul, Nat.reduceSub, Int.reduceToNat, Nat.reduceBEq], by simp (disch := first | (simp only [go_sem, gb0, eq_self]; done) | omega | (simp only [gl1, gl2]; omega)) only [go_sem, ↓reduceIte, Nat.reduceEqDiff, Nat.reduceAdd, Nat.reduceMul, Nat.reduceSub, Int.reduceToNat, Nat.reduceBEq], X0, by simp (disch := first | (simp only [go_sem, gb0, eq_self]; done) | omega | (simp only [gl1, gl2]; omega)) only [go_sem, ↓reduceIte, Nat.reduceEqDiff, Nat.reduceAdd, Nat.reduceMul, Nat.reduceSub, Int.reduceToNat, Nat.reduceBEq], by simp (disch := first | (simp only [go_sem, gb0, eq_self]; done) | omega | (simp only [gl1, gl2]; omega)) only [go_sem, ↓reduceIte, Nat.reduceEqDiff, Nat.reduceAdd, Nat.reduceMul, Nat.reduceSub, Int.reduceToNat, Nat.reduceBEq]; exact Nat.lt_succ_self 0, hX0⟩ ?_
    rintro c st h hc s12 ⟨s1, s2, s4, s11, X, b0, hnx, hX⟩
    by_cases hlt : c < n
    case neg =>
      have hce : c = n := by omega
      subst hce
      simp (disch := first | (simp only [go_sem, gb0, eq_self]; done) | omega | (simp only [gl1, gl2]; omega)) only [go_sem, ↓reduceIte, Nat.reduceEqDiff, Nat.reduceAdd, Nat.reduceMul, Nat.reduceSub, Int.reduceToNat, Nat.reduceBEq, s1, s2, s11, s12, hlt]
      exact ⟨X, b0, hnx, hX⟩
    have St := S.stage c (by omega)
    have hcc := St.diag hlt
    rw [← hX c c hlt (by omega)] at hcc
    have hc6 : c < 6 := by omega
    have hc6' : (c : Int) < 6 := by omega
    have hc7 : c < 7 := by omega
    have hc7' : (c : Int) < 7 := by omega
    have hne : ¬ X c c = 0 := by omega
    have hN7 : n + 1 ≤ 7 := by omega
    have hN7' : (n : Int) + 1 ≤ 7 := by omega
    simp (disch := first | (simp only [go_sem, gb0, eq_self]; done) | omega | (simp only [gl1, gl2]; omega)) only [go_sem, ↓reduceIte, Nat.reduceEqDiff, Nat.reduceAdd, Nat.reduceMul, Nat.reduceSub, Int.reduceToNat, Nat.reduceBEq, s1, s2, s4, s11, s12, hlt]
    refine WP_cut (fun st h' => st 1 = I n ∧ st 2 = .ptr 0 0 ∧ st 4 = .nil ∧ st 11 = I n ∧ st 5 = I c ∧ st 6 = I c ∧ st 12 = I c ∧ h' = h) ?_ ?_
    · refine WP_loopK (fun m st h' => st 1 = I n ∧ st 2 = .ptr 0 0 ∧ st 4 = .nil ∧ st 11 = I n ∧ st 5 = I c ∧ st 6 = I c ∧ st 12 = I c ∧ h' = h) 0 ⟨by simp (disch := first | (simp only [go_sem, gb0, eq_self]; done) | omega | (simp only [gl1, gl2]; omega)) only [go_sem, ↓reduceIte, Nat.reduceEqDiff, Nat.reduceAdd, Nat.reduceMul, Nat.reduceSub, Int.reduceToNat, Nat.reduceBEq, s1], by simp (disch := first | (simp only [go_sem, gb0, eq_self]; done) | omega | (simp only [gl1, gl2]; omega)) only [go_sem, ↓reduceIte, Nat.reduceEqDiff, Nat.reduceAdd, Nat.reduceMul, Nat.reduceSub, Int.reduceToNat, Nat.reduceBEq, s2], by simp (disch := first | (simp only [go_sem, gb0, eq_self]; done) | omega | (simp only [gl1, gl2]; omega)) only [go_sem, ↓reduceIte, Nat.reduceEqDiff, Nat.reduceAdd, Nat.reduceMul, Nat.reduceSub, Int.reduceToNat, Nat.reduceBEq, s4], by simp (disch := first | (simp only [go_sem, gb0, eq_self]; done) | omega | (simp only [gl1, gl2]; omega)) only [go_sem, ↓reduceIte, Nat.reduceEqDiff, Nat.reduceAdd, Nat.reduceMul, Nat.reduceSub, Int.reduceToNat, Nat.reduceBEq, s11], by simp (disch := first | (simp only [go_sem, gb0, eq_self]; done) | omega | (simp only [gl1, gl2]; omega)) only [go_sem, ↓reduceIte, Nat.reduceEqDiff, Nat.reduceAdd, Nat.reduceMul, Nat.reduceSub, Int.reduceToNat, Nat.reduceBEq], by simp (disch := first | (simp only [go_sem, gb0, eq_self]; done) | omega | (simp only [gl1, gl2]; omega)) only [go_sem, ↓reduceIte, Nat.reduceEqDiff, Nat.reduceAdd, Nat.reduceMul, Nat.reduceSub, Int.reduceToNat, Nat.reduceBEq], by simp (disch := first | (simp only [go_sem, gb0, eq_self]; done) | omega | (simp only [gl1, gl2]; omega)) only [go_sem, ↓reduceIte, Nat.reduceEqDiff, Nat.reduceAdd, Nat.reduceMul, Nat.reduceSub, Int.reduceToNat, Nat.reduceBEq, s12], rfl⟩ ?_
      rintro m st h' ⟨s1, s2, s4, s11, s5, s6, s12, rfl⟩
      simp (disch := first | (simp only [go_sem, gb0, eq_self]; done) | omega | (simp only [gl1, gl2]; omega)) only [go_sem, ↓reduceIte, Nat.reduceEqDiff, Nat.reduceAdd, Nat.reduceMul, Nat.reduceSub, Int.reduceToNat, Nat.reduceBEq, s1, s2, s4, s11, s5, s6, s12, hc6, hc6', hc7, hc7', b0, hne]
    rintro st h' ⟨s1, s2, s4, s11, s5, s6, s12, rfl⟩
    have hps := put_same b0
    have hmk : ∀ g : Hp, makeB Try.prog g (some (.slice 3)) (.int .i64 ((n : Int) + 1)) (.int .i64 ((n : Int) + 1)) = some (.sl g.nx 0 (n + 1) 1, g.alloc (.cells false true ((List.replicate (n + 1) (0 : Int)).flatMap (e1 I)))) := fun g => by
      have := makeB_int (P := Try.prog) (h := g) 3 ((n : Int) + 1) isz3 ibytes3 izero3 (by omega) (by omega)
      rwa [show ((n : Int) + 1).toNat = n + 1 by omega] at this
    obtain ⟨J, hJ⟩ : ∃ J, J = h'.nx := ⟨_, rfl⟩
    have hJ0 : ¬ 0 = J := by omega
    have hJ0' : ¬ J = 0 := by omega
    obtain ⟨g1, hg1⟩ : ∃ g1, g1 = h'.alloc (.cells false true ((List.replicate (n + 1) (0 : Int)).flatMap (e1 I))) := ⟨_, rfl⟩
    have g1n : g1.nx = J + 1 := by rw [hg1, hJ]; rfl
    have g10 : g1.bl 0 = some (.cells false false (matA X)) := by rw [hg1, alloc_bl, if_neg (by omega)]; exact b0
    have g1J : g1.bl J = some (.cells false true ((List.replicate (n + 1) (0 : Int)).flatMap (e1 I))) := by rw [hg1, alloc_bl, if_pos hJ]
    have hcell := cells_row X g1 0 c (n + 1) false false hc6 hN7 g10
    have hsl := sliceC_row X 0 c (n + 1) false hc6 hN7
    have hcp := copyC_vec g1 J (n + 1) true ((List.replicate (n + 1) (0 : Int)).flatMap (e1 I)) (X c) (by rw [flat_len]; simp) 3
    have hcast : (((n + 1 : Nat) : Int)) = (n : Int) + 1 := by omega
    rw [hcast] at hsl hcp
    have hln : lenA (.sl 0 (c * 7) (n + 1) 1) = some (n + 1) := rfl
    obtain ⟨g2, hg2⟩ : ∃ g2, g2 = g1.put J (some (.cells false true (vecA (X c) (n + 1)))) := ⟨_, rfl⟩
    have g2n : g2.nx = J + 1 := by rw [hg2]; exact g1n
    have g20 : g2.bl 0 = some (.cells false false (matA X)) := by rw [hg2, put_bl, if_neg hJ0]; exact g10
    have g2J : g2.bl J = some (.cells false true (vecA (X c) (n + 1))) := by rw [hg2, put_bl, if_pos rfl]
    simp (disch := first | (simp only [go_sem, gb0, eq_self]; done) | omega | (simp only [gl1, gl2]; omega)) only [go_sem, ↓reduceIte, Nat.reduceEqDiff, Nat.reduceAdd, Nat.reduceMul, Nat.reduceSub, Int.reduceToNat, Nat.reduceBEq, s1, s2, s4, s11, s5, s6, s12, hc6, hc6', hc7, hc7', hnx, b0, AV_cells_agg, hps, hmk, ← hg1, ← hJ, g10, g1J, hsl, hcell, hcp, hln, ← hg2]
    refine WP_cut (fun st h => st 1 = I n ∧ st 2 = .ptr 0 0 ∧ st 4 = .nil ∧ st 11 = I n ∧ st 12 = I c ∧ h.nx = J + 1 ∧ ∃ X', h.bl 0 = some (.cells false false (matA X')) ∧ ∀ r k, r < n → k ≤ n → X' r k = XE n M (c + 1) r k) ?_ ?_
    · refine WP_for 45 n (fun i st h => st 1 = I n ∧ st 2 = .ptr 0 0 ∧ st 4 = .nil ∧ st 11 = I n ∧ st 5 = I c ∧ st 7 = .sl J 0 (n + 1) 1 ∧ st 12 = I c ∧ st 44 = I n ∧ h.nx = J + 1 ∧ h.bl J = some (.cells false true (vecA (X c) (n + 1))) ∧ ∃ X', h.bl 0 = some (.cells false false (matA X')) ∧ ∀ r k, r < n → k ≤ n → X' r k = if r < i then XE n M (c + 1) r k else XE n M c r k) (by simp (disch := first | (simp only [go_sem, gb0, eq_self]; done) | omega | (simp only [gl1, gl2]; omega)) only [go_sem, ↓reduceIte, Nat.reduceEqDiff, Nat.reduceAdd, Nat.reduceMul, Nat.reduceSub, Int.reduceToNat, Nat.reduceBEq]) ⟨by simp (disch := first | (simp only [go_sem, gb0, eq_self]; done) | omega | (simp only [gl1, gl2]; omega)) only [go_sem, ↓reduceIte, Nat.reduceEqDiff, Nat.reduceAdd, Nat.reduceMul, Nat.reduceSub, Int.reduceToNat, Nat.reduceBEq, s1], by simp (disch := first | (simp only [go_sem, gb0, eq_self]; done) | omega | (simp only [gl1, gl2]; omega)) only [go_sem, ↓reduceIte, Nat.reduceEqDiff, Nat.reduceAdd, Nat.reduceMul, Nat.reduceSub, Int.reduceToNat, Nat.reduceBEq, s2], by simp (disch := first | (simp only [go_sem, gb0, eq_self]; done) | omega | (simp only [gl1, gl2]; omega)) only [go_sem, ↓reduceIte, Nat.reduceEqDiff, Nat.reduceAdd, Nat.reduceMul, Nat.reduceSub, Int.reduceToNat, Nat.reduceBEq, s4], by simp (disch := first | (simp only [go_sem, gb0, eq_self]; done) | omega | (simp only [gl1, gl2]; omega)) only [go_sem, ↓reduceIte, Nat.reduceEqDiff, Nat.reduceAdd, Nat.reduceMul, Nat.reduceSub, Int.reduceToNat, Nat.reduceBEq, s11], by simp (disch := first | (simp only [go_sem, gb0, eq_self]; done) | omega | (simp only [gl1, gl2]; omega)) only [go_sem, ↓reduceIte, Nat.reduceEqDiff, Nat.reduceAdd, Nat.reduceMul, Nat.reduceSub, Int.reduceToNat, Nat.reduceBEq, s5], by simp (disch := first | (simp only [go_sem, gb0, eq_self]; done) | omega | (simp only [gl1, gl2]; omega)) only [go_sem, ↓reduceIte, Nat.reduceEqDiff, Nat.reduceAdd, Nat.reduceMul, Nat.reduceSub, Int.reduceToNat, Nat.reduceBEq], by simp (disch := first | (simp only [go_sem, gb0, eq_self]; done) | omega | (simp only [gl1, gl2]; omega)) only [go_sem, ↓reduceIte, Nat.reduceEqDiff, Nat.reduceAdd, Nat.reduceMul, Nat.reduceSub, Int.reduceToNat, Nat.reduceBEq, s12], by simp (disch := first | (simp only [go_sem, gb0, eq_self]; done) | omega | (simp only [gl1, gl2]; omega)) only [go_sem, ↓reduceIte, Nat.reduceEqDiff, Nat.reduceAdd, Nat.reduceMul, Nat.reduceSub, Int.reduceToNat, Nat.reduceBEq], g2n, g2J, X, g20, fun r k hr hk => by rw [if_neg (by omega)]; exact hX r k hr hk⟩ ?_
      rintro i st h hi s45 ⟨s1, s2, s4, s11, s5, s7, s12, s44, hn2, bJ, X', b0, hX'⟩
      by_cases hil : i < n
      case neg =>
        have hie : i = n := by omega
        subst hie
        simp (disch := first | (simp only [go_sem, gb0, eq_self]; done) | omega | (simp only [gl1, gl2]; omega)) only [go_sem, ↓reduceIte, Nat.reduceEqDiff, Nat.reduceAdd, Nat.reduceMul, Nat.reduceSub, Int.reduceToNat, Nat.reduceBEq, s1, s2, s4, s11, s5, s7, s12, s44, s45, hil]
        exact ⟨hn2, X', b0, fun r k hr hk => by rw [hX' r k hr hk, if_pos hr]⟩
      have hstep : XE n M (c + 1) = stepE n c (XE n M c) := rfl
      have hi6 : i < 6 := by omega
      have hi6' : (i : Int) < 6 := by omega
      have hv : X' i c = XE n M c i c := by rw [hX' i c hil (by omega), if_neg (by omega)]
      have keep : (∀ k, k ≤ n → XE n M (c + 1) i k = XE n M c i k) → ∀ r k, r < n → k ≤ n → X' r k = if r < i + 1 then XE n M (c + 1) r k else XE n M c r k := fun he r k hr hk => by
        rw [hX' r k hr hk]
        by_cases h1 : r < i
        · rw [if_pos h1, if_pos (by omega)]
        · by_cases h2 : r = i
          · subst h2; rw [if_neg h1, if_pos (by omega), he k hk]
          · rw [if_neg h1, if_neg (by omega)]
      by_cases hic : i = c
      · subst hic
        simp (disch := first | (simp only [go_sem, gb0, eq_self]; done) | omega | (simp only [gl1, gl2]; omega)) only [go_sem, ↓reduceIte, Nat.reduceEqDiff, Nat.reduceAdd, Nat.reduceMul, Nat.reduceSub, Int.reduceToNat, Nat.reduceBEq, s1, s2, s4, s11, s5, s7, s12, s44, s45, hil, eq_self, decide_true, Bool.not_true]
        rw [ForK_normal]
        exact ⟨hil, by simp (disch := first | (simp only [go_sem, gb0, eq_self]; done) | omega | (simp only [gl1, gl2]; omega)) only [go_sem, ↓reduceIte, Nat.reduceEqDiff, Nat.reduceAdd, Nat.reduceMul, Nat.reduceSub, Int.reduceToNat, Nat.reduceBEq, s45], by simp (disch := first | (simp only [go_sem, gb0, eq_self]; done) | omega | (simp only [gl1, gl2]; omega)) only [go_sem, ↓reduceIte, Nat.reduceEqDiff, Nat.reduceAdd, Nat.reduceMul, Nat.reduceSub, Int.reduceToNat, Nat.reduceBEq, s1], by simp (disch := first | (simp only [go_sem, gb0, eq_self]; done) | omega | (simp only [gl1, gl2]; omega)) only [go_sem, ↓reduceIte, Nat.reduceEqDiff, Nat.reduceAdd, Nat.reduceMul, Nat.reduceSub, Int.reduceToNat, Nat.reduceBEq, s2], by simp (disch := first | (simp only [go_sem, gb0, eq_self]; done) | omega | (simp only [gl1, gl2]; omega)) only [go_sem, ↓reduceIte, Nat.reduceEqDiff, Nat.reduceAdd, Nat.reduceMul, Nat.reduceSub, Int.reduceToNat, Nat.reduceBEq, s4], by simp (disch := first | (simp only [go_sem, gb0, eq_self]; done) | omega | (simp only [gl1, gl2]; omega)) only [go_sem, ↓reduceIte, Nat.reduceEqDiff, Nat.reduceAdd, Nat.reduceMul, Nat.reduceSub, Int.reduceToNat, Nat.reduceBEq, s11], by simp (disch := first | (simp only [go_sem, gb0, eq_self]; done) | omega | (simp only [gl1, gl2]; omega)) only [go_sem, ↓reduceIte, Nat.reduceEqDiff, Nat.reduceAdd, Nat.reduceMul, Nat.reduceSub, Int.reduceToNat, Nat.reduceBEq, s5], by simp (disch := first | (simp only [go_sem, gb0, eq_self]; done) | omega | (simp only [gl1, gl2]; omega)) only [go_sem, ↓reduceIte, Nat.reduceEqDiff, Nat.reduceAdd, Nat.reduceMul, Nat.reduceSub, Int.reduceToNat, Nat.reduceBEq, s7], by simp (disch := first | (simp only [go_sem, gb0, eq_self]; done) | omega | (simp only [gl1, gl2]; omega)) only [go_sem, ↓reduceIte, Nat.reduceEqDiff, Nat.reduceAdd, Nat.reduceMul, Nat.reduceSub, Int.reduceToNat, Nat.reduceBEq, s12], by simp (disch := first | (simp only [go_sem, gb0, eq_self]; done) | omega | (simp only [gl1, gl2]; omega)) only [go_sem, ↓reduceIte, Nat.reduceEqDiff, Nat.reduceAdd, Nat.reduceMul, Nat.reduceSub, Int.reduceToNat, Nat.reduceBEq, s44], hn2, bJ, X', b0, keep fun k _ => by rw [hstep]; unfold stepE; rw [if_pos (.inl rfl)]⟩
      by_cases hz : XE n M c i c = 0
      · rw [hz] at hv
        simp (disch := first | (simp only [go_sem, gb0, eq_self]; done) | omega | (simp only [gl1, gl2]; omega)) only [go_sem, ↓reduceIte, Nat.reduceEqDiff, Nat.reduceAdd, Nat.reduceMul, Nat.reduceSub, Int.reduceToNat, Nat.reduceBEq, s1, s2, s4, s11, s5, s7, s12, s44, s45, hil, hic, hi6, hi6', hc7, hc7', b0, hv, eq_self, decide_true, Bool.not_true]
        rw [ForK_normal]
        exact ⟨hil, by simp (disch := first | (simp only [go_sem, gb0, eq_self]; done) | omega | (simp only [gl1, gl2]; omega)) only [go_sem, ↓reduceIte, Nat.reduceEqDiff, Nat.reduceAdd, Nat.reduceMul, Nat.reduceSub, Int.reduceToNat, Nat.reduceBEq, s45], by simp (disch := first | (simp only [go_sem, gb0, eq_self]; done) | omega | (simp only [gl1, gl2]; omega)) only [go_sem, ↓reduceIte, Nat.reduceEqDiff, Nat.reduceAdd, Nat.reduceMul, Nat.reduceSub, Int.reduceToNat, Nat.reduceBEq, s1], by simp (disch := first | (simp only [go_sem, gb0, eq_self]; done) | omega | (simp only [gl1, gl2]; omega)) only [go_sem, ↓reduceIte, Nat.reduceEqDiff, Nat.reduceAdd, Nat.reduceMul, Nat.reduceSub, Int.reduceToNat, Nat.reduceBEq, s2], by simp (disch := first | (simp only [go_sem, gb0, eq_self]; done) | omega | (simp only [gl1, gl2]; omega)) only [go_sem, ↓reduceIte, Nat.reduceEqDiff, Nat.reduceAdd, Nat.reduceMul, Nat.reduceSub, Int.reduceToNat, Nat.reduceBEq, s4], by simp (disch := first | (simp only [go_sem, gb0, eq_self]; done) | omega | (simp only [gl1, gl2]; omega)) only [go_sem, ↓reduceIte, Nat.reduceEqDiff, Nat.reduceAdd, Nat.reduceMul, Nat.reduceSub, Int.reduceToNat, Nat.reduceBEq, s11], by simp (disch := first | (simp only [go_sem, gb0, eq_self]; done) | omega | (simp only [gl1, gl2]; omega)) only [go_sem, ↓reduceIte, Nat.reduceEqDiff, Nat.reduceAdd, Nat.reduceMul, Nat.reduceSub, Int.reduceToNat, Nat.reduceBEq, s5], by simp (disch := first | (simp only [go_sem, gb0, eq_self]; done) | omega | (simp only [gl1, gl2]; omega)) only [go_sem, ↓reduceIte, Nat.reduceEqDiff, Nat.reduceAdd, Nat.reduceMul, Nat.reduceSub, Int.reduceToNat, Nat.reduceBEq, s7], by simp (disch := first | (simp only [go_sem, gb0, eq_self]; done) | omega | (simp only [gl1, gl2]; omega)) only [go_sem, ↓reduceIte, Nat.reduceEqDiff, Nat.reduceAdd, Nat.reduceMul, Nat.reduceSub, Int.reduceToNat, Nat.reduceBEq, s12], by simp (disch := first | (simp only [go_sem, gb0, eq_self]; done) | omega | (simp only [gl1, gl2]; omega)) only [go_sem, ↓reduceIte, Nat.reduceEqDiff, Nat.reduceAdd, Nat.reduceMul, Nat.reduceSub, Int.reduceToNat, Nat.reduceBEq, s44], hn2, bJ, X', b0, keep fun k _ => by rw [hstep]; unfold stepE; rw [if_pos (.inr hz)]⟩
      have hv0 : ¬ X' i c = 0 := by rw [hv]; exact hz
      have hXi : ∀ k, k ≤ n → X' i k = XE n M c i k := fun k hk => by rw [hX' i k hil hk, if_neg (by omega)]
      have hXc : ∀ k, k ≤ n → X c k = XE n M c c k := fun k hk => hX c k hlt hk
      have hbE : bE n ≤ 262144 := by
        have h1 : (8 : Nat) ^ n ≤ 8 ^ 6 := Nat.pow_le_pow_right (by decide) (by omega)
        have h2 : ((8 ^ n : Nat) : Int) = bE n := by simp [bE]
        have : (8 : Nat) ^ 6 = 262144 := by decide
        omega
      have hbC : bC n ≤ 3188646000 := by
        have h1 : (9 : Nat) ^ n ≤ 9 ^ 6 := Nat.pow_le_pow_right (by decide) (by omega)
        have h3 : n * (1000 * 9 ^ n) ≤ 6 * (1000 * 9 ^ 6) := Nat.mul_le_mul (by omega) (Nat.mul_le_mul_left _ h1)
        have h2 : ((n * (1000 * 9 ^ n) : Nat) : Int) = bC n := by simp [bC]
        have : 6 * (1000 * 9 ^ 6) = 3188646000 := by decide
        omega
      have hbd : ∀ r, r < n → ∀ k, k < n + 1 → -4000000000 ≤ XE n M c r k ∧ XE n M c r k ≤ 4000000000 := fun r hr k hk => by
        by_cases hkn : k < n
        · have := S.ent_le (show c ≤ n by omega) hr hkn; omega
        · have := S.const_le (show c ≤ n by omega) hr
          rw [show k = n by omega]; omega
      have e1 := S.ent_le (show c ≤ n by omega) hil hlt
      have e2 := S.ent_le (show c ≤ n by omega) hlt hlt
      obtain ⟨h3, hs3, h3n, h30, h3o⟩ := f72_shr (X := X') (Y := X c) (id := 0) (jd := J) (i := i) (c := c) (N := n + 1) (row := true) hJ0 hi6 hN7 (by omega)
        (fun k hk => by rw [hXi k (by omega)]; exact hbd i hil k hk) (fun k hk => by rw [hXc k (by omega)]; exact hbd c hlt k hk)
        (by rw [hv]; omega) (by rw [hXc c (by omega)]; omega) (by omega) n rfl h (by omega) (by omega) b0 bJ
      have hc72 := fun K => CallW_shr (K := K) 72 _ rfl hs3
      have hsl2 := sliceC_row X' 0 i (n + 1) false hi6 hN7
      rw [hcast] at hsl2
      simp (disch := first | (simp only [go_sem, gb0, eq_self]; done) | omega | (simp only [gl1, gl2]; omega)) only [go_sem, ↓reduceIte, Nat.reduceEqDiff, Nat.reduceAdd, Nat.reduceMul, Nat.reduceSub, Int.reduceToNat, Nat.reduceBEq, s1, s2, s4, s11, s5, s7, s12, s44, s45, hil, hic, hi6, hi6', hc7, hc7', b0, hv0, hN7, hN7', hsl2, hc72, List.cons_append, List.nil_append]
      rw [ForK_normal]
      refine ⟨hil, by simp (disch := first | (simp only [go_sem, gb0, eq_self]; done) | omega | (simp only [gl1, gl2]; omega)) only [go_sem, ↓reduceIte, Nat.reduceEqDiff, Nat.reduceAdd, Nat.reduceMul, Nat.reduceSub, Int.reduceToNat, Nat.reduceBEq, s45], by simp (disch := first | (simp only [go_sem, gb0, eq_self]; done) | omega | (simp only [gl1, gl2]; omega)) only [go_sem, ↓reduceIte, Nat.reduceEqDiff, Nat.reduceAdd, Nat.reduceMul, Nat.reduceSub, Int.reduceToNat, Nat.reduceBEq, s1], by simp (disch := first | (simp only [go_sem, gb0, eq_self]; done) | omega | (simp only [gl1, gl2]; omega)) only [go_sem, ↓reduceIte, Nat.reduceEqDiff, Nat.reduceAdd, Nat.reduceMul, Nat.reduceSub, Int.reduceToNat, Nat.reduceBEq, s2], by simp (disch := first | (simp only [go_sem, gb0, eq_self]; done) | omega | (simp only [gl1, gl2]; omega)) only [go_sem, ↓reduceIte, Nat.reduceEqDiff, Nat.reduceAdd, Nat.reduceMul, Nat.reduceSub, Int.reduceToNat, Nat.reduceBEq, s4], by simp (disch := first | (simp only [go_sem, gb0, eq_self]; done) | omega | (simp only [gl1, gl2]; omega)) only [go_sem, ↓reduceIte, Nat.reduceEqDiff, Nat.reduceAdd, Nat.reduceMul, Nat.reduceSub, Int.reduceToNat, Nat.reduceBEq, s11], by simp (disch := first | (simp only [go_sem, gb0, eq_self]; done) | omega | (simp only [gl1, gl2]; omega)) only [go_sem, ↓reduceIte, Nat.reduceEqDiff, Nat.reduceAdd, Nat.reduceMul, Nat.reduceSub, Int.reduceToNat, Nat.reduceBEq, s5], by simp (disch := first | (simp only [go_sem, gb0, eq_self]; done) | omega | (simp only [gl1, gl2]; omega)) only [go_sem, ↓reduceIte, Nat.reduceEqDiff, Nat.reduceAdd, Nat.reduceMul, Nat.reduceSub, Int.reduceToNat, Nat.reduceBEq, s7], by simp (disch := first | (simp only [go_sem, gb0, eq_self]; done) | omega | (simp only [gl1, gl2]; omega)) only [go_sem, ↓reduceIte, Nat.reduceEqDiff, Nat.reduceAdd, Nat.reduceMul, Nat.reduceSub, Int.reduceToNat, Nat.reduceBEq, s12], by simp (disch := first | (simp only [go_sem, gb0, eq_self]; done) | omega | (simp only [gl1, gl2]; omega)) only [go_sem, ↓reduceIte, Nat.reduceEqDiff, Nat.reduceAdd, Nat.reduceMul, Nat.reduceSub, Int.reduceToNat, Nat.reduceBEq, s44], by omega, (h3o J hJ0').trans bJ, _, h30, fun r k hr hk => ?_⟩
      unfold rowM
      by_cases h2 : r = i
      · subst h2
        rw [if_pos ⟨rfl, by omega⟩, if_pos (by omega), hstep]
        unfold stepE
        rw [if_neg (by rintro (h | h); exact hic h; exact hz h)]
        exact elimP_congr (by omega) hXi hXc k hk
      · rw [if_neg (by omega), hX' r k hr hk]
        by_cases h1 : r < i
        · rw [if_pos h1, if_pos (by omega)]
        · rw [if_neg h1, if_neg (by omega)]
    · rintro st h ⟨s1, s2, s4, s11, s12, hn2, X', b0, hX'⟩
      simp (disch := first | (simp only [go_sem, gb0, eq_self]; done) | omega | (simp only [gl1, gl2]; omega)) only [go_sem, ↓reduceIte, Nat.reduceEqDiff, Nat.reduceAdd, Nat.reduceMul, Nat.reduceSub, Int.reduceToNat, Nat.reduceBEq, s1, s2, s4, s11, s12]
      rw [ForK_normal]
      exact ⟨hlt, by simp (disch := first | (simp only [go_sem, gb0, eq_self]; done) | omega | (simp only [gl1, gl2]; omega)) only [go_sem, ↓reduceIte, Nat.reduceEqDiff, Nat.reduceAdd, Nat.reduceMul, Nat.reduceSub, Int.reduceToNat, Nat.reduceBEq, s12], by simp (disch := first | (simp only [go_sem, gb0, eq_self]; done) | omega | (simp only [gl1, gl2]; omega)) only [go_sem, ↓reduceIte, Nat.reduceEqDiff, Nat.reduceAdd, Nat.reduceMul, Nat.reduceSub, Int.reduceToNat, Nat.reduceBEq, s1], by simp (disch := first | (simp only [go_sem, gb0, eq_self]; done) | omega | (simp only [gl1, gl2]; omega)) only [go_sem, ↓reduceIte, Nat.reduceEqDiff, Nat.reduceAdd, Nat.reduceMul, Nat.reduceSub, Int.reduceToNat, Nat.reduceBEq, s2], by simp (disch := first | (simp only [go_sem, gb0, eq_self]; done) | omega | (simp only [gl1, gl2]; omega)) only [go_sem, ↓reduceIte, Nat.reduceEqDiff, Nat.reduceAdd, Nat.reduceMul, Nat.reduceSub, Int.reduceToNat, Nat.reduceBEq, s4], by simp (disch := first | (simp only [go_sem, gb0, eq_self]; done) | omega | (simp only [gl1, gl2]; omega)) only [go_sem, ↓reduceIte, Nat.reduceEqDiff, Nat.reduceAdd, Nat.reduceMul, Nat.reduceSub, Int.reduceToNat, Nat.reduceBEq, s11], X', b0, by omega, hX'⟩
  · rintro st h ⟨s1, s2, X, b0, hnx, hX⟩
    have St := S.stage n (Nat.le_refl _)
    obtain ⟨fr, hfr⟩ : ∃ fr : Nat → Int × Int, fr = fun i => rdP (VN nx.length (wF nx) (pF pay) (pF cost) (ruleB x) i) (DN nx.length (wF nx) (pF pay) (pF cost) (ruleB x)) := ⟨_, rfl⟩
    have hval : valL nx pay cost x = (List.range n).map fr := by rw [hfr, valL, hn]
    simp (disch := first | (simp only [go_sem, gb0, eq_self]; done) | omega | (simp only [gl1, gl2]; omega)) only [go_sem, ↓reduceIte, Nat.reduceEqDiff, Nat.reduceAdd, Nat.reduceMul, Nat.reduceSub, Int.reduceToNat, Nat.reduceBEq, s1, s2]
    refine WP_cut (fun st h => ∃ v, st 9 = v ∧ Go.Am.Own eP 2 h v ((List.range n).map fr)) ?_ ?_
    · refine WP_for 70 n (fun i st h => st 1 = I n ∧ st 2 = .ptr 0 0 ∧ st 69 = I n ∧ 0 < h.nx ∧ h.bl 0 = some (.cells false false (matA X)) ∧ ∃ v, st 9 = v ∧ Go.Am.Own eP 2 h v ((List.range i).map fr)) (by simp (disch := first | (simp only [go_sem, gb0, eq_self]; done) | omega | (simp only [gl1, gl2]; omega)) only [go_sem, ↓reduceIte, Nat.reduceEqDiff, Nat.reduceAdd, Nat.reduceMul, Nat.reduceSub, Int.reduceToNat, Nat.reduceBEq]) ⟨by simp (disch := first | (simp only [go_sem, gb0, eq_self]; done) | omega | (simp only [gl1, gl2]; omega)) only [go_sem, ↓reduceIte, Nat.reduceEqDiff, Nat.reduceAdd, Nat.reduceMul, Nat.reduceSub, Int.reduceToNat, Nat.reduceBEq, s1], by simp (disch := first | (simp only [go_sem, gb0, eq_self]; done) | omega | (simp only [gl1, gl2]; omega)) only [go_sem, ↓reduceIte, Nat.reduceEqDiff, Nat.reduceAdd, Nat.reduceMul, Nat.reduceSub, Int.reduceToNat, Nat.reduceBEq, s2], by simp (disch := first | (simp only [go_sem, gb0, eq_self]; done) | omega | (simp only [gl1, gl2]; omega)) only [go_sem, ↓reduceIte, Nat.reduceEqDiff, Nat.reduceAdd, Nat.reduceMul, Nat.reduceSub, Int.reduceToNat, Nat.reduceBEq], hnx, b0, .nil, by simp (disch := first | (simp only [go_sem, gb0, eq_self]; done) | omega | (simp only [gl1, gl2]; omega)) only [go_sem, ↓reduceIte, Nat.reduceEqDiff, Nat.reduceAdd, Nat.reduceMul, Nat.reduceSub, Int.reduceToNat, Nat.reduceBEq], .inl ⟨rfl, rfl⟩⟩ ?_
      rintro i st h hi s70 ⟨s1, s2, s69, hnx, b0, v, s9, ov⟩
      by_cases hil : i < n
      case neg =>
        have hie : i = n := by omega
        subst hie
        simp (disch := first | (simp only [go_sem, gb0, eq_self]; done) | omega | (simp only [gl1, gl2]; omega)) only [go_sem, ↓reduceIte, Nat.reduceEqDiff, Nat.reduceAdd, Nat.reduceMul, Nat.reduceSub, Int.reduceToNat, Nat.reduceBEq, s1, s2, s69, s70, s9, hil]
        exact ⟨_, rfl, ov⟩
      have hd := St.diag hil
      have hB1 := S.diag_le (Nat.le_refl n) hil
      have hB2 := S.const_le (Nat.le_refl n) hil
      have hbE : bE n ≤ 262144 := by
        have h1 : (8 : Nat) ^ n ≤ 8 ^ 6 := Nat.pow_le_pow_right (by decide) (by omega)
        have h2 : ((8 ^ n : Nat) : Int) = bE n := by simp [bE]
        have : (8 : Nat) ^ 6 = 262144 := by decide
        omega
      have hbC : bC n ≤ 3188646000 := by
        have h1 : (9 : Nat) ^ n ≤ 9 ^ 6 := Nat.pow_le_pow_right (by decide) (by omega)
        have h3 : n * (1000 * 9 ^ n) ≤ 6 * (1000 * 9 ^ 6) := Nat.mul_le_mul (by omega) (Nat.mul_le_mul_left _ h1)
        have h2 : ((n * (1000 * 9 ^ n) : Nat) : Int) = bC n := by simp [bC]
        have : 6 * (1000 * 9 ^ 6) = 3188646000 := by decide
        omega
      have kr := fun h h' K => k70 (h := h) (h' := h') (K := K) (X i n) (X i i) (by rw [hX i n hil (Nat.le_refl _)]; simp only [big]; omega) (by rw [hX i i hil (by omega)]; simp only [big]; omega) (by rw [hX i i hil (by omega)]; omega)
      have hout := out_val C.chn hs (i := i) (by omega)
      have hr : rdP (X i n) (X i i) = fr i := by
        rw [hX i n hil (Nat.le_refl _), hX i i hil (by omega), hfr, hM, hn]; exact hout
      rw [hr] at kr
      have hi6 : i < 6 := by omega
      have hi6' : (i : Int) < 6 := by omega
      have hi7 : i < 7 := by omega
      have hi7' : (i : Int) < 7 := by omega
      have hn7 : n < 7 := by omega
      have hn7' : (n : Int) < 7 := by omega
      have hbs := fun h => bsB_pair (P := Try.prog) (h := h) 37 (fr i).1 (fr i).2 0 0 isz37 izero37
      have happ := app_pair (P := Try.prog) ov 37 16 (.agg [I 0, I 0]) (fr i).1 (fr i).2 isz37 ibytes37 izero37 rfl (by simp; omega) (by simp; omega)
      have hown := own_ne ov b0
      simp (disch := first | (simp only [go_sem, gb0, eq_self]; done) | omega | (simp only [gl1, gl2]; omega)) only [go_sem, ↓reduceIte, Nat.reduceEqDiff, Nat.reduceAdd, Nat.reduceMul, Nat.reduceSub, Int.reduceToNat, Nat.reduceBEq, s1, s2, s69, s70, s9, hil, hi6, hi6', hi7, hi7', hn7, hn7', b0, hnx, kr, hbs, happ]
      rw [ForK_normal]
      refine ⟨hil, by simp (disch := first | (simp only [go_sem, gb0, eq_self]; done) | omega | (simp only [gl1, gl2]; omega)) only [go_sem, ↓reduceIte, Nat.reduceEqDiff, Nat.reduceAdd, Nat.reduceMul, Nat.reduceSub, Int.reduceToNat, Nat.reduceBEq, s70], by simp (disch := first | (simp only [go_sem, gb0, eq_self]; done) | omega | (simp only [gl1, gl2]; omega)) only [go_sem, ↓reduceIte, Nat.reduceEqDiff, Nat.reduceAdd, Nat.reduceMul, Nat.reduceSub, Int.reduceToNat, Nat.reduceBEq, s1], by simp (disch := first | (simp only [go_sem, gb0, eq_self]; done) | omega | (simp only [gl1, gl2]; omega)) only [go_sem, ↓reduceIte, Nat.reduceEqDiff, Nat.reduceAdd, Nat.reduceMul, Nat.reduceSub, Int.reduceToNat, Nat.reduceBEq, s2], by simp (disch := first | (simp only [go_sem, gb0, eq_self]; done) | omega | (simp only [gl1, gl2]; omega)) only [go_sem, ↓reduceIte, Nat.reduceEqDiff, Nat.reduceAdd, Nat.reduceMul, Nat.reduceSub, Int.reduceToNat, Nat.reduceBEq, s69], by rw [appH_nx]; omega, ?_, _, by simp (disch := first | (simp only [go_sem, gb0, eq_self]; done) | omega | (simp only [gl1, gl2]; omega)) only [go_sem, ↓reduceIte, Nat.reduceEqDiff, Nat.reduceAdd, Nat.reduceMul, Nat.reduceSub, Int.reduceToNat, Nat.reduceBEq]; rfl, ?_⟩
      · rw [appH_bl _ _ _ _ hnx hown]; exact b0
      · rw [← rows_snoc]
        exact Own.app _ _ _
    · rintro st h ⟨v, s9, ov⟩
      simp (disch := first | (simp only [go_sem, gb0, eq_self]; done) | omega | (simp only [gl1, gl2]; omega)) only [go_sem, ↓reduceIte, Nat.reduceEqDiff, Nat.reduceAdd, Nat.reduceMul, Nat.reduceSub, Int.reduceToNat, Nat.reduceBEq, s9]
      rw [hval]
      exact ov
theorem f55_con {nx : List (List Int)} {pay cost : List Int} (C : okC nx pay cost) (x : Nat) (hs : sndP nx.length (wF nx) (ruleB x)) : Con Try.prog cfg 55 [eqR nx pay cost x, I nx.length] (LP (valL nx pay cost x)) := by
  obtain ⟨v, h', hsh, o⟩ := f55_S C x hs
  exact con_of_shr Try.func55 rfl hsh (export_Own (f := eP) 28 o)
/-- The values, handed over. -/
theorem f55_own {nx : List (List Int)} {pay cost : List Int} (C : okC nx pay cost) (x : Nat) (hs : sndP nx.length (wF nx) (ruleB x)) : PureOk Try.prog 55 [eqR nx pay cost x, I nx.length] (.fresh 2 ((valL nx pay cost x).flatMap eP)) := by
  obtain ⟨v, h', hsh, o⟩ := f55_S C x hs
  exact pure_of_shr (fun _ _ _ h => by cases h) hsh (export_fresh (f := eP) false 28 37 und28 isz37 o)
end Go.Proofs.Ytgamcclfdkpcgaa

set_option linter.unusedVariables false
set_option linter.unusedSimpArgs false
set_option maxRecDepth 10000
namespace Go.Proofs.Ytgamcclfdkpcgaa
open Go Go.Am

variable {h h' : Hp} {K : AV → Hp → Prop}

/-- Six bools. -/
def bolA (L : Nat → Bool) : List AV := (List.range 6).map fun k => .bool (L k)
def setB (L : Nat → Bool) (i : Nat) (v : Bool) : Nat → Bool := fun k => if k = i then v else L k
theorem bolA_len (L : Nat → Bool) : (bolA L).length = 6 := by simp [bolA]
@[go_sem] theorem bolA_get (L : Nat → Bool) (i : Nat) (hi : i < 6) : (bolA L)[i]? = some (.bool (L i)) := by
  rw [bolA, List.getElem?_map, List.getElem?_range hi]; rfl
@[go_sem] theorem bolA_store (L : Nat → Bool) (id i : Nat) (v : Bool) (hi : i < 6) : storeC h id i 1 (some (.cells false false (bolA L))) [.bool v] = some (.skp, h.put id (some (.cells false false (bolA (setB L i v))))) := by
  rw [storeC_one id _ false _ (.bool v) rfl (by rw [bolA_len]; omega)]
  congr 5
  refine List.ext_getElem? fun k => ?_
  rw [List.getElem?_set]
  by_cases hk : k < 6
  · by_cases e : i = k
    · subst e
      rw [if_pos rfl, if_pos (by rw [bolA_len]; omega), bolA_get _ _ hk]
      simp [setB]
    · rw [if_neg e, bolA_get _ _ hk, bolA_get _ _ hk]
      simp [setB, Ne.symm e]
  · rw [if_neg (by omega), List.getElem?_eq_none (by rw [bolA_len]; omega), List.getElem?_eq_none (by rw [bolA_len]; omega)]
theorem setB_at (L : Nat → Bool) (i : Nat) (v : Bool) : setB L i v i = v := by simp [setB]
theorem setB_twice (L : Nat → Bool) (i : Nat) (u v : Bool) : setB (setB L i u) i v = setB L i v := by
  funext k; unfold setB; split <;> rfl
theorem setB_same {L : Nat → Bool} {i : Nat} {v : Bool} (h : L i = v) : setB L i v = L := by
  funext k; unfold setB; split
  · rename_i e; rw [e, h]
  · rfl
theorem uR_bol (n x : Nat) : (ruleN n n x).flatMap (e1 AV.bool) = bolA fun k => if k < n then ruleB x k else false := by
  refine List.ext_getElem? fun k => ?_
  by_cases hk : k < 6
  · have hl := ruleN_len n n x
    rw [bolA_get _ _ hk, flat_bools _ _ (by omega), ruleN, fillR_nth hk]; rfl
  · rw [List.getElem?_eq_none (by rw [flat_len, ruleN_len]; omega), List.getElem?_eq_none (by rw [bolA_len]; omega)]

/-- A set that is never left. -/
def closed (n : Nat) (w : Mat) (r S : Nat → Bool) : Prop := ∀ i, i < n → S i = true → r i = false ∧ sumN (w i) n = 4 ∧ ∀ j, j < n → 0 < w i j → S j = true
/-- From these the rule or the end is reached. -/
structure Left (n : Nat) (w : Mat) (r L : Nat → Bool) : Prop where
  ok : ∀ S, closed n w r S → ∀ i, i < n → L i = true → S i = false
  r : ∀ i, i < n → r i = true → L i = true
/-- Nothing more is reached. -/
def stab (n : Nat) (w : Mat) (L : Nat → Bool) (m : Nat) : Prop := ∀ i, i < m → L i = false → sumN (w i) n = 4 ∧ ∀ j, j < n → 0 < w i j → L j = false
def cntF (L : Nat → Bool) : Nat := ((List.range 6).filter fun k => !L k).length
theorem cntF_set {L : Nat → Bool} {i : Nat} (hi : i < 6) (h : L i = false) : cntF (setB L i true) < cntF L := by
  refine filter_lt (y := i) (fun k _ hk => ?_) (List.mem_range.2 hi) (by simp [setB]) (by simp [h])
  by_cases e : k = i
  · subst e; simp [setB] at hk
  · simpa [setB, e] using hk
theorem Left.sound {n : Nat} {w : Mat} {r L : Nat → Bool} (l : Left n w r L) (s : stab n w L n) : sndP n w r ↔ ∀ i, i < n → L i = true := by
  constructor
  · intro h i hi
    cases hl : L i with
    | true => rfl
    | false =>
      have := h (fun k => !L k) (fun k hk hs => by
        have hlk : L k = false := by simpa using hs
        obtain ⟨a, b⟩ := s k hk hlk
        refine ⟨?_, a, fun j hj hw => by simp [b j hj hw]⟩
        cases hr : r k with
        | false => rfl
        | true => rw [l.r k hk hr] at hlk; cases hlk) i hi
      simp [hl] at this
  · intro h S hS i hi
    exact l.ok S hS i hi (h i hi)
/-- Some state that is reached leads there, or the end does. -/
def leads (w : Mat) (L : Nat → Bool) (i m : Nat) : Bool := (List.range m).any fun j => decide (0 < w i j) && L j
theorem leads_step (w : Mat) (L : Nat → Bool) (i m : Nat) : leads w L i (m + 1) = (leads w L i m || (decide (0 < w i m) && L m)) := by
  unfold leads; rw [List.range_succ, List.any_append]; simp
theorem leads_no {w : Mat} {L : Nat → Bool} {i m : Nat} (h : leads w L i m = false) : ∀ j, j < m → 0 < w i j → L j = false := fun j hj hw => by
  have := List.any_eq_false.1 h j (List.mem_range.2 hj)
  simpa [hw] using this
theorem leads_yes {w : Mat} {L : Nat → Bool} {i m : Nat} (h : leads w L i m = true) : ∃ j, j < m ∧ 0 < w i j ∧ L j = true := by
  obtain ⟨j, hj, hb⟩ := List.any_eq_true.1 h
  simp only [Bool.and_eq_true, decide_eq_true_eq] at hb
  exact ⟨j, List.mem_range.1 hj, hb⟩
theorem Left.grow {n : Nat} {w : Mat} {p c : Nat → Int} {r L : Nat → Bool} (C : Chn n w p c) (l : Left n w r L) {i : Nat} (hi : i < n) (h : (leads w L i n || decide (sumN (w i) n < 4)) = true) : Left n w r (setB L i true) := by
  refine ⟨fun S hS k hk hl => ?_, fun k hk hr => ?_⟩
  · by_cases e : k = i
    · subst e
      cases hsk : S k with
      | false => rfl
      | true =>
        obtain ⟨_, a, b⟩ := hS k hk hsk
        rw [Bool.or_eq_true] at h
        rcases h with h | h
        · obtain ⟨j, hj, hw, hlj⟩ := leads_yes h
          have := l.ok S hS j hj hlj
          rw [b j hj hw] at this; cases this
        · have := of_decide_eq_true h; omega
    · refine l.ok S hS k hk ?_
      simpa [setB, e] using hl
  · unfold setB; split
    · rfl
    · exact l.r k hk hr

theorem f54_con {nx : List (List Int)} {pay cost : List Int} (C : okC nx pay cost) (x : Nat) : Con Try.prog cfg 54 [chA nx pay cost, uR nx.length x] (.bool (sndB nx.length (wF nx) x)) := by
  obtain ⟨n, hn⟩ : ∃ n, n = nx.length := ⟨_, rfl⟩
  have hn1 := C.n1
  have hn6 := C.n6
  have hal : ∀ g : Hp, allocB g (some (chA nx pay cost)) = some (.ptr g.nx 0, g.alloc (.cells false false [LLI nx, LI pay, LI cost])) := fun g => allocB_agg _ rfl
  have bolA_cell : ∀ L, (bolA L).all AV.isCell = true := fun L => List.all_eq_true.2 fun y hy => by obtain ⟨k, _, rfl⟩ := List.mem_map.1 hy; rfl
  obtain ⟨L0, hL0⟩ : ∃ L0, L0 = fun k => if k < n then ruleB x k else false := ⟨_, rfl⟩
  have hu : uR nx.length x = .agg (bolA L0) := by rw [uR, uR_bol, hL0, hn]
  have hal2 : ∀ g : Hp, allocB g (some (.agg (bolA L0))) = some (.ptr g.nx 0, g.alloc (.cells false false (bolA L0))) := fun g => allocB_agg _ (bolA_cell _)
  have hld : ∀ L, loadC (some (.array 6 4)) (some 6) (some (bolA L, 0)) = some (.agg (bolA L)) := fun L => by
    have := loadC_agg (.array 6 4) 6 rfl (bolA L) 0 (by rw [bolA_len]; omega)
    rw [this, List.drop_zero, List.take_of_length_le (by rw [bolA_len]; omega)]
  have hst : ∀ (g : Hp) (id : Nat) (flat : List AV), flat.length = 6 → storeC g id 0 6 (some (.cells false false flat)) (bolA L0) = some (.skp, g.put id (some (.cells false false (bolA L0)))) := fun g id flat hl => by
    rw [storeC_many id 0 6 false _ _ (bolA_len _) (bolA_cell _) (by omega)]
    have := setL_all flat (bolA L0) [] (by rw [bolA_len, hl])
    simp only [List.nil_append, List.length_nil] at this
    rw [this]
  have hLL : Left n (wF nx) (ruleB x) L0 := by
    refine ⟨fun S hS i hi hl => ?_, fun i hi hr => by rw [hL0]; simp [hi, hr]⟩
    rw [hL0] at hl
    simp only [hi, if_true] at hl
    cases hsi : S i with
    | false => rfl
    | true => have := (hS i hi hsi).1; rw [hl] at this; cases this
  rw [hu]
  refine Con_intro Try.func54 rfl ok54 (Nat.le_of_ble_eq_true rfl) rfl ?_
  simp only [Try.f54, Option.getD_some, initSt2]
  have hst0 := fun g id => hst g id [.bool false, .bool false, .bool false, .bool false, .bool false, .bool false] rfl
  simp (disch := first | (simp only [go_sem, gb0, eq_self]; done) | omega | (simp only [gl1, gl2]; omega)) only [go_sem, ↓reduceIte, Nat.reduceEqDiff, Nat.reduceAdd, Nat.reduceMul, Nat.reduceSub, Int.reduceToNat, Nat.reduceBEq, hal, hal2, hld, hst0]
  have hnn : ∀ i : Nat, i < n → i < nx.length ∧ i < 6 ∧ (i : Int) < 6 ∧ (i : Int) < nx.length := fun i hi => by omega
  refine WP_cut (fun st h => st 2 = .ptr 0 0 ∧ st 5 = .ptr 2 0 ∧ h.nx = 3 ∧ h.bl 0 = some (.cells false false [LLI nx, LI pay, LI cost]) ∧ ∃ L, h.bl 2 = some (.cells false false (bolA L)) ∧ Left n (wF nx) (ruleB x) L ∧ stab n (wF nx) L n) ?_ ?_
  · refine WP_loopK (fun m st h => ∃ (g : Bool) (L : Nat → Bool), m = (if g then cntF L + 1 else 0) ∧ st 2 = .ptr 0 0 ∧ st 5 = .ptr 2 0 ∧ st 6 = .bool g ∧ h.nx = 3 ∧ h.bl 0 = some (.cells false false [LLI nx, LI pay, LI cost]) ∧ h.bl 2 = some (.cells false false (bolA L)) ∧ Left n (wF nx) (ruleB x) L ∧ (g = false → stab n (wF nx) L n)) (cntF L0 + 1)
      ⟨true, L0, rfl, by simp (disch := first | (simp only [go_sem, gb0, eq_self]; done) | omega | (simp only [gl1, gl2]; omega)) only [go_sem, ↓reduceIte, Nat.reduceEqDiff, Nat.reduceAdd, Nat.reduceMul, Nat.reduceSub, Int.reduceToNat, Nat.reduceBEq], by simp (disch := first | (simp only [go_sem, gb0, eq_self]; done) | omega | (simp only [gl1, gl2]; omega)) only [go_sem, ↓reduceIte, Nat.reduceEqDiff, Nat.reduceAdd, Nat.reduceMul, Nat.reduceSub, Int.reduceToNat, Nat.reduceBEq], by simp (disch := first | (simp only [go_sem, gb0, eq_self]; done) | omega | (simp only [gl1, gl2]; omega)) only [go_sem, ↓reduceIte, Nat.reduceEqDiff, Nat.reduceAdd, Nat.reduceMul, Nat.reduceSub, Int.reduceToNat, Nat.reduceBEq], by simp (disch := first | (simp only [go_sem, gb0, eq_self]; done) | omega | (simp only [gl1, gl2]; omega)) only [go_sem, ↓reduceIte, Nat.reduceEqDiff, Nat.reduceAdd, Nat.reduceMul, Nat.reduceSub, Int.reduceToNat, Nat.reduceBEq], by simp (disch := first | (simp only [go_sem, gb0, eq_self]; done) | omega | (simp only [gl1, gl2]; omega)) only [go_sem, ↓reduceIte, Nat.reduceEqDiff, Nat.reduceAdd, Nat.reduceMul, Nat.reduceSub, Int.reduceToNat, Nat.reduceBEq], by simp (disch := first | (simp only [go_sem, gb0, eq_self]; done) | omega | (simp only [gl1, gl2]; omega)) only [go_sem, ↓reduceIte, Nat.reduceEqDiff, Nat.reduceAdd, Nat.reduceMul, Nat.reduceSub, Int.reduceToNat, Nat.reduceBEq], hLL, fun h => by cases h⟩ ?_
    rintro m st h ⟨g, L, rfl, s2, s5, s6, hnx, b0, b2, hL, hg⟩
    cases g with
    | false =>
      simp (disch := first | (simp only [go_sem, gb0, eq_self]; done) | omega | (simp only [gl1, gl2]; omega)) only [go_sem, ↓reduceIte, Nat.reduceEqDiff, Nat.reduceAdd, Nat.reduceMul, Nat.reduceSub, Int.reduceToNat, Nat.reduceBEq, s2, s5, s6]
      exact ⟨hnx, b0, L, b2, hL, hg rfl⟩
    | true =>
    simp (disch := first | (simp only [go_sem, gb0, eq_self]; done) | omega | (simp only [gl1, gl2]; omega)) only [go_sem, ↓reduceIte, Nat.reduceEqDiff, Nat.reduceAdd, Nat.reduceMul, Nat.reduceSub, Int.reduceToNat, Nat.reduceBEq, s2, s5, s6, b0]
    refine WP_cut (fun st h => st 2 = .ptr 0 0 ∧ st 5 = .ptr 2 0 ∧ h.nx = 3 ∧ h.bl 0 = some (.cells false false [LLI nx, LI pay, LI cost]) ∧ ∃ (g : Bool) (L' : Nat → Bool), st 6 = .bool g ∧ h.bl 2 = some (.cells false false (bolA L')) ∧ Left n (wF nx) (ruleB x) L' ∧ (g = true → cntF L' < cntF L) ∧ (g = false → stab n (wF nx) L' n)) ?_ ?_
    · refine WP_for 18 n (fun i st h => st 2 = .ptr 0 0 ∧ st 5 = .ptr 2 0 ∧ st 16 = LLI nx ∧ st 17 = I n ∧ h.nx = 3 ∧ h.bl 0 = some (.cells false false [LLI nx, LI pay, LI cost]) ∧ ∃ (g : Bool) (L' : Nat → Bool), st 6 = .bool g ∧ h.bl 2 = some (.cells false false (bolA L')) ∧ Left n (wF nx) (ruleB x) L' ∧ (g = true → cntF L' < cntF L) ∧ (g = false → L' = L ∧ stab n (wF nx) L i)) (by simp (disch := first | (simp only [go_sem, gb0, eq_self]; done) | omega | (simp only [gl1, gl2]; omega)) only [go_sem, ↓reduceIte, Nat.reduceEqDiff, Nat.reduceAdd, Nat.reduceMul, Nat.reduceSub, Int.reduceToNat, Nat.reduceBEq])
        ⟨by simp (disch := first | (simp only [go_sem, gb0, eq_self]; done) | omega | (simp only [gl1, gl2]; omega)) only [go_sem, ↓reduceIte, Nat.reduceEqDiff, Nat.reduceAdd, Nat.reduceMul, Nat.reduceSub, Int.reduceToNat, Nat.reduceBEq, s2], by simp (disch := first | (simp only [go_sem, gb0, eq_self]; done) | omega | (simp only [gl1, gl2]; omega)) only [go_sem, ↓reduceIte, Nat.reduceEqDiff, Nat.reduceAdd, Nat.reduceMul, Nat.reduceSub, Int.reduceToNat, Nat.reduceBEq, s5], by simp (disch := first | (simp only [go_sem, gb0, eq_self]; done) | omega | (simp only [gl1, gl2]; omega)) only [go_sem, ↓reduceIte, Nat.reduceEqDiff, Nat.reduceAdd, Nat.reduceMul, Nat.reduceSub, Int.reduceToNat, Nat.reduceBEq], by simp (disch := first | (simp only [go_sem, gb0, eq_self]; done) | omega | (simp only [gl1, gl2]; omega)) only [go_sem, ↓reduceIte, Nat.reduceEqDiff, Nat.reduceAdd, Nat.reduceMul, Nat.reduceSub, Int.reduceToNat, Nat.reduceBEq, hn], by simp (disch := first | (simp only [go_sem, gb0, eq_self]; done) | omega | (simp only [gl1, gl2]; omega)) only [go_sem, ↓reduceIte, Nat.reduceEqDiff, Nat.reduceAdd, Nat.reduceMul, Nat.reduceSub, Int.reduceToNat, Nat.reduceBEq, hnx], by simp (disch := first | (simp only [go_sem, gb0, eq_self]; done) | omega | (simp only [gl1, gl2]; omega)) only [go_sem, ↓reduceIte, Nat.reduceEqDiff, Nat.reduceAdd, Nat.reduceMul, Nat.reduceSub, Int.reduceToNat, Nat.reduceBEq, b0], false, L, by simp (disch := first | (simp only [go_sem, gb0, eq_self]; done) | omega | (simp only [gl1, gl2]; omega)) only [go_sem, ↓reduceIte, Nat.reduceEqDiff, Nat.reduceAdd, Nat.reduceMul, Nat.reduceSub, Int.reduceToNat, Nat.reduceBEq], by simp (disch := first | (simp only [go_sem, gb0, eq_self]; done) | omega | (simp only [gl1, gl2]; omega)) only [go_sem, ↓reduceIte, Nat.reduceEqDiff, Nat.reduceAdd, Nat.reduceMul, Nat.reduceSub, Int.reduceToNat, Nat.reduceBEq, b2], hL, fun h => (by cases h), fun _ => ⟨rfl, fun i hi => by omega⟩⟩ ?_
      rintro i st h hi s18 ⟨s2, s5, s16, s17, hnx, b0, g, L', s6, b2, hL', hg1, hg2⟩
      by_cases hlt : i < n
      case neg =>
        have hie : i = n := by omega
        subst hie
        simp (disch := first | (simp only [go_sem, gb0, eq_self]; done) | omega | (simp only [gl1, gl2]; omega)) only [go_sem, ↓reduceIte, Nat.reduceEqDiff, Nat.reduceAdd, Nat.reduceMul, Nat.reduceSub, Int.reduceToNat, Nat.reduceBEq, s2, s5, s16, s17, s18, s6, hlt]
        exact ⟨hnx, b0, g, L', rfl, b2, hL', hg1, fun h => by obtain ⟨e, s⟩ := hg2 h; rw [e]; exact s⟩
      obtain ⟨hi1, hi6, hi6', hi2⟩ := hnn i hlt
      cases hli : L' i with
      | true =>
        simp (disch := first | (simp only [go_sem, gb0, eq_self]; done) | omega | (simp only [gl1, gl2]; omega)) only [go_sem, ↓reduceIte, Nat.reduceEqDiff, Nat.reduceAdd, Nat.reduceMul, Nat.reduceSub, Int.reduceToNat, Nat.reduceBEq, s2, s5, s16, s17, s18, s6, hlt, hi1, hi2, hi6, hi6', b2, hli]
        rw [ForK_normal]
        refine ⟨hlt, by simp (disch := first | (simp only [go_sem, gb0, eq_self]; done) | omega | (simp only [gl1, gl2]; omega)) only [go_sem, ↓reduceIte, Nat.reduceEqDiff, Nat.reduceAdd, Nat.reduceMul, Nat.reduceSub, Int.reduceToNat, Nat.reduceBEq, s18], by simp (disch := first | (simp only [go_sem, gb0, eq_self]; done) | omega | (simp only [gl1, gl2]; omega)) only [go_sem, ↓reduceIte, Nat.reduceEqDiff, Nat.reduceAdd, Nat.reduceMul, Nat.reduceSub, Int.reduceToNat, Nat.reduceBEq, s2], by simp (disch := first | (simp only [go_sem, gb0, eq_self]; done) | omega | (simp only [gl1, gl2]; omega)) only [go_sem, ↓reduceIte, Nat.reduceEqDiff, Nat.reduceAdd, Nat.reduceMul, Nat.reduceSub, Int.reduceToNat, Nat.reduceBEq, s5], by simp (disch := first | (simp only [go_sem, gb0, eq_self]; done) | omega | (simp only [gl1, gl2]; omega)) only [go_sem, ↓reduceIte, Nat.reduceEqDiff, Nat.reduceAdd, Nat.reduceMul, Nat.reduceSub, Int.reduceToNat, Nat.reduceBEq, s16], by simp (disch := first | (simp only [go_sem, gb0, eq_self]; done) | omega | (simp only [gl1, gl2]; omega)) only [go_sem, ↓reduceIte, Nat.reduceEqDiff, Nat.reduceAdd, Nat.reduceMul, Nat.reduceSub, Int.reduceToNat, Nat.reduceBEq, s17], hnx, b0, g, L', by simp (disch := first | (simp only [go_sem, gb0, eq_self]; done) | omega | (simp only [gl1, gl2]; omega)) only [go_sem, ↓reduceIte, Nat.reduceEqDiff, Nat.reduceAdd, Nat.reduceMul, Nat.reduceSub, Int.reduceToNat, Nat.reduceBEq, s6], b2, hL', hg1, fun h => ?_⟩
        obtain ⟨e, s⟩ := hg2 h
        refine ⟨e, fun k hk hlk => ?_⟩
        by_cases hki : k = i
        · subst hki; rw [← e, hli] at hlk; cases hlk
        · exact s k (by omega) hlk
      | false =>
      have hrow := C.row i hi1
      simp (disch := first | (simp only [go_sem, gb0, eq_self]; done) | omega | (simp only [gl1, gl2]; omega)) only [go_sem, ↓reduceIte, Nat.reduceEqDiff, Nat.reduceAdd, Nat.reduceMul, Nat.reduceSub, Int.reduceToNat, Nat.reduceBEq, s2, s5, s16, s17, s18, s6, hlt, hi1, hi2, hi6, hi6', b2, hli]
      refine WP_cut (fun st h => st 2 = .ptr 0 0 ∧ st 5 = .ptr 2 0 ∧ st 6 = .bool g ∧ st 7 = I i ∧ st 16 = LLI nx ∧ st 17 = I n ∧ st 18 = I i ∧ st 9 = I (sumN (wF nx i) n) ∧ h.nx = 3 ∧ h.bl 0 = some (.cells false false [LLI nx, LI pay, LI cost]) ∧ h.bl 2 = some (.cells false false (bolA (setB L' i (leads (wF nx) L' i n))))) ?_ ?_
      · refine WP_for 28 n (fun m st h => st 2 = .ptr 0 0 ∧ st 5 = .ptr 2 0 ∧ st 6 = .bool g ∧ st 7 = I i ∧ st 16 = LLI nx ∧ st 17 = I n ∧ st 18 = I i ∧ st 26 = LI (nth nx i) ∧ st 27 = I n ∧ st 9 = I (sumN (wF nx i) m) ∧ h.nx = 3 ∧ h.bl 0 = some (.cells false false [LLI nx, LI pay, LI cost]) ∧ h.bl 2 = some (.cells false false (bolA (setB L' i (leads (wF nx) L' i m))))) (by simp (disch := first | (simp only [go_sem, gb0, eq_self]; done) | omega | (simp only [gl1, gl2]; omega)) only [go_sem, ↓reduceIte, Nat.reduceEqDiff, Nat.reduceAdd, Nat.reduceMul, Nat.reduceSub, Int.reduceToNat, Nat.reduceBEq])
          ⟨by simp (disch := first | (simp only [go_sem, gb0, eq_self]; done) | omega | (simp only [gl1, gl2]; omega)) only [go_sem, ↓reduceIte, Nat.reduceEqDiff, Nat.reduceAdd, Nat.reduceMul, Nat.reduceSub, Int.reduceToNat, Nat.reduceBEq, s2], by simp (disch := first | (simp only [go_sem, gb0, eq_self]; done) | omega | (simp only [gl1, gl2]; omega)) only [go_sem, ↓reduceIte, Nat.reduceEqDiff, Nat.reduceAdd, Nat.reduceMul, Nat.reduceSub, Int.reduceToNat, Nat.reduceBEq, s5], by simp (disch := first | (simp only [go_sem, gb0, eq_self]; done) | omega | (simp only [gl1, gl2]; omega)) only [go_sem, ↓reduceIte, Nat.reduceEqDiff, Nat.reduceAdd, Nat.reduceMul, Nat.reduceSub, Int.reduceToNat, Nat.reduceBEq, s6], by simp (disch := first | (simp only [go_sem, gb0, eq_self]; done) | omega | (simp only [gl1, gl2]; omega)) only [go_sem, ↓reduceIte, Nat.reduceEqDiff, Nat.reduceAdd, Nat.reduceMul, Nat.reduceSub, Int.reduceToNat, Nat.reduceBEq], by simp (disch := first | (simp only [go_sem, gb0, eq_self]; done) | omega | (simp only [gl1, gl2]; omega)) only [go_sem, ↓reduceIte, Nat.reduceEqDiff, Nat.reduceAdd, Nat.reduceMul, Nat.reduceSub, Int.reduceToNat, Nat.reduceBEq, s16], by simp (disch := first | (simp only [go_sem, gb0, eq_self]; done) | omega | (simp only [gl1, gl2]; omega)) only [go_sem, ↓reduceIte, Nat.reduceEqDiff, Nat.reduceAdd, Nat.reduceMul, Nat.reduceSub, Int.reduceToNat, Nat.reduceBEq, s17], by simp (disch := first | (simp only [go_sem, gb0, eq_self]; done) | omega | (simp only [gl1, gl2]; omega)) only [go_sem, ↓reduceIte, Nat.reduceEqDiff, Nat.reduceAdd, Nat.reduceMul, Nat.reduceSub, Int.reduceToNat, Nat.reduceBEq, s18], by simp (disch := first | (simp only [go_sem, gb0, eq_self]; done) | omega | (simp only [gl1, gl2]; omega)) only [go_sem, ↓reduceIte, Nat.reduceEqDiff, Nat.reduceAdd, Nat.reduceMul, Nat.reduceSub, Int.reduceToNat, Nat.reduceBEq], by (simp (disch := first | (simp only [go_sem, gb0, eq_self]; done) | omega | (simp only [gl1, gl2]; omega)) only [go_sem, ↓reduceIte, Nat.reduceEqDiff, Nat.reduceAdd, Nat.reduceMul, Nat.reduceSub, Int.reduceToNat, Nat.reduceBEq]; rw [hrow, hn]), by simp (disch := first | (simp only [go_sem, gb0, eq_self]; done) | omega | (simp only [gl1, gl2]; omega)) only [go_sem, ↓reduceIte, Nat.reduceEqDiff, Nat.reduceAdd, Nat.reduceMul, Nat.reduceSub, Int.reduceToNat, Nat.reduceBEq]; rfl, hnx, b0, by rw [show leads (wF nx) L' i 0 = false from rfl, setB_same hli]; exact b2⟩ ?_
        rintro m st h hm s28 ⟨s2, s5, s6, s7, s16, s17, s18, s26, s27, s9, hnx, b0, b2⟩
        by_cases hmn : m < n
        case neg =>
          have hme : m = n := by omega
          subst hme
          simp (disch := first | (simp only [go_sem, gb0, eq_self]; done) | omega | (simp only [gl1, gl2]; omega)) only [go_sem, ↓reduceIte, Nat.reduceEqDiff, Nat.reduceAdd, Nat.reduceMul, Nat.reduceSub, Int.reduceToNat, Nat.reduceBEq, s2, s5, s6, s7, s16, s17, s18, s9, s27, s28, hmn]
          exact ⟨hnx, b0, b2⟩
        obtain ⟨hm1, hm6, hm6', hm2⟩ := hnn m hmn
        have hmr : m < (nth nx i).length := by omega
        have hmr' : (m : Int) < (nth nx i).length := by omega
        have hwb := C.wb hi1 hm1
        have hsb := sumN_bounds (f := wF nx i) (lo := 0) (hi := 4) (n := m) fun k hk => C.wb hi1 (show k < nx.length by omega)
        have hst := leads_step (wF nx) L' i m
        have hs1 : sumN (wF nx i) (m + 1) = sumN (wF nx i) m + nth (nth nx i) m := rfl
        cases hb : leads (wF nx) L' i m with
        | true =>
          rw [hb] at b2 hst
          have hst2 : leads (wF nx) L' i (m + 1) = true := by rw [hst]; rfl
          have hat := setB_at L' i true
          have hse := setB_twice L' i true true
          simp (disch := first | (simp only [go_sem, gb0, eq_self]; done) | omega | (simp only [gl1, gl2]; omega)) only [go_sem, ↓reduceIte, Nat.reduceEqDiff, Nat.reduceAdd, Nat.reduceMul, Nat.reduceSub, Int.reduceToNat, Nat.reduceBEq, s2, s5, s6, s7, s16, s17, s18, s26, s27, s9, s28, hmn, hm6, hm6', hmr, hmr', hi6, hi6', b2, hat, hse]
          rw [ForK_normal]
          exact ⟨hmn, by simp (disch := first | (simp only [go_sem, gb0, eq_self]; done) | omega | (simp only [gl1, gl2]; omega)) only [go_sem, ↓reduceIte, Nat.reduceEqDiff, Nat.reduceAdd, Nat.reduceMul, Nat.reduceSub, Int.reduceToNat, Nat.reduceBEq, s28], by simp (disch := first | (simp only [go_sem, gb0, eq_self]; done) | omega | (simp only [gl1, gl2]; omega)) only [go_sem, ↓reduceIte, Nat.reduceEqDiff, Nat.reduceAdd, Nat.reduceMul, Nat.reduceSub, Int.reduceToNat, Nat.reduceBEq, s2], by simp (disch := first | (simp only [go_sem, gb0, eq_self]; done) | omega | (simp only [gl1, gl2]; omega)) only [go_sem, ↓reduceIte, Nat.reduceEqDiff, Nat.reduceAdd, Nat.reduceMul, Nat.reduceSub, Int.reduceToNat, Nat.reduceBEq, s5], by simp (disch := first | (simp only [go_sem, gb0, eq_self]; done) | omega | (simp only [gl1, gl2]; omega)) only [go_sem, ↓reduceIte, Nat.reduceEqDiff, Nat.reduceAdd, Nat.reduceMul, Nat.reduceSub, Int.reduceToNat, Nat.reduceBEq, s6], by simp (disch := first | (simp only [go_sem, gb0, eq_self]; done) | omega | (simp only [gl1, gl2]; omega)) only [go_sem, ↓reduceIte, Nat.reduceEqDiff, Nat.reduceAdd, Nat.reduceMul, Nat.reduceSub, Int.reduceToNat, Nat.reduceBEq, s7], by simp (disch := first | (simp only [go_sem, gb0, eq_self]; done) | omega | (simp only [gl1, gl2]; omega)) only [go_sem, ↓reduceIte, Nat.reduceEqDiff, Nat.reduceAdd, Nat.reduceMul, Nat.reduceSub, Int.reduceToNat, Nat.reduceBEq, s16], by simp (disch := first | (simp only [go_sem, gb0, eq_self]; done) | omega | (simp only [gl1, gl2]; omega)) only [go_sem, ↓reduceIte, Nat.reduceEqDiff, Nat.reduceAdd, Nat.reduceMul, Nat.reduceSub, Int.reduceToNat, Nat.reduceBEq, s17], by simp (disch := first | (simp only [go_sem, gb0, eq_self]; done) | omega | (simp only [gl1, gl2]; omega)) only [go_sem, ↓reduceIte, Nat.reduceEqDiff, Nat.reduceAdd, Nat.reduceMul, Nat.reduceSub, Int.reduceToNat, Nat.reduceBEq, s18], by simp (disch := first | (simp only [go_sem, gb0, eq_self]; done) | omega | (simp only [gl1, gl2]; omega)) only [go_sem, ↓reduceIte, Nat.reduceEqDiff, Nat.reduceAdd, Nat.reduceMul, Nat.reduceSub, Int.reduceToNat, Nat.reduceBEq, s26], by simp (disch := first | (simp only [go_sem, gb0, eq_self]; done) | omega | (simp only [gl1, gl2]; omega)) only [go_sem, ↓reduceIte, Nat.reduceEqDiff, Nat.reduceAdd, Nat.reduceMul, Nat.reduceSub, Int.reduceToNat, Nat.reduceBEq, s27], by (rw [hs1]; simp (disch := first | (simp only [go_sem, gb0, eq_self]; done) | omega | (simp only [gl1, gl2]; omega)) only [go_sem, ↓reduceIte, Nat.reduceEqDiff, Nat.reduceAdd, Nat.reduceMul, Nat.reduceSub, Int.reduceToNat, Nat.reduceBEq]), hnx, by simp (disch := first | (simp only [go_sem, gb0, eq_self]; done) | omega | (simp only [gl1, gl2]; omega)) only [go_sem, ↓reduceIte, Nat.reduceEqDiff, Nat.reduceAdd, Nat.reduceMul, Nat.reduceSub, Int.reduceToNat, Nat.reduceBEq, b0], by (rw [hst2]; simp (disch := first | (simp only [go_sem, gb0, eq_self]; done) | omega | (simp only [gl1, gl2]; omega)) only [go_sem, ↓reduceIte, Nat.reduceEqDiff, Nat.reduceAdd, Nat.reduceMul, Nat.reduceSub, Int.reduceToNat, Nat.reduceBEq])⟩
        | false =>
          rw [hb, setB_same hli] at b2
          rw [hb] at hst
          by_cases hw : 0 < nth (nth nx i) m
          · have hst2 : leads (wF nx) L' i (m + 1) = L' m := by rw [hst]; show (false || (decide (0 < nth (nth nx i) m) && L' m)) = L' m; simp [hw]
            cases hLm : L' m with
            | true =>
              rw [hLm] at hst2
              simp (disch := first | (simp only [go_sem, gb0, eq_self]; done) | omega | (simp only [gl1, gl2]; omega)) only [go_sem, ↓reduceIte, Nat.reduceEqDiff, Nat.reduceAdd, Nat.reduceMul, Nat.reduceSub, Int.reduceToNat, Nat.reduceBEq, s2, s5, s6, s7, s16, s17, s18, s26, s27, s9, s28, hmn, hm6, hm6', hmr, hmr', hi6, hi6', b2, hli, hw, hLm]
              rw [ForK_normal]
              exact ⟨hmn, by simp (disch := first | (simp only [go_sem, gb0, eq_self]; done) | omega | (simp only [gl1, gl2]; omega)) only [go_sem, ↓reduceIte, Nat.reduceEqDiff, Nat.reduceAdd, Nat.reduceMul, Nat.reduceSub, Int.reduceToNat, Nat.reduceBEq, s28], by simp (disch := first | (simp only [go_sem, gb0, eq_self]; done) | omega | (simp only [gl1, gl2]; omega)) only [go_sem, ↓reduceIte, Nat.reduceEqDiff, Nat.reduceAdd, Nat.reduceMul, Nat.reduceSub, Int.reduceToNat, Nat.reduceBEq, s2], by simp (disch := first | (simp only [go_sem, gb0, eq_self]; done) | omega | (simp only [gl1, gl2]; omega)) only [go_sem, ↓reduceIte, Nat.reduceEqDiff, Nat.reduceAdd, Nat.reduceMul, Nat.reduceSub, Int.reduceToNat, Nat.reduceBEq, s5], by simp (disch := first | (simp only [go_sem, gb0, eq_self]; done) | omega | (simp only [gl1, gl2]; omega)) only [go_sem, ↓reduceIte, Nat.reduceEqDiff, Nat.reduceAdd, Nat.reduceMul, Nat.reduceSub, Int.reduceToNat, Nat.reduceBEq, s6], by simp (disch := first | (simp only [go_sem, gb0, eq_self]; done) | omega | (simp only [gl1, gl2]; omega)) only [go_sem, ↓reduceIte, Nat.reduceEqDiff, Nat.reduceAdd, Nat.reduceMul, Nat.reduceSub, Int.reduceToNat, Nat.reduceBEq, s7], by simp (disch := first | (simp only [go_sem, gb0, eq_self]; done) | omega | (simp only [gl1, gl2]; omega)) only [go_sem, ↓reduceIte, Nat.reduceEqDiff, Nat.reduceAdd, Nat.reduceMul, Nat.reduceSub, Int.reduceToNat, Nat.reduceBEq, s16], by simp (disch := first | (simp only [go_sem, gb0, eq_self]; done) | omega | (simp only [gl1, gl2]; omega)) only [go_sem, ↓reduceIte, Nat.reduceEqDiff, Nat.reduceAdd, Nat.reduceMul, Nat.reduceSub, Int.reduceToNat, Nat.reduceBEq, s17], by simp (disch := first | (simp only [go_sem, gb0, eq_self]; done) | omega | (simp only [gl1, gl2]; omega)) only [go_sem, ↓reduceIte, Nat.reduceEqDiff, Nat.reduceAdd, Nat.reduceMul, Nat.reduceSub, Int.reduceToNat, Nat.reduceBEq, s18], by simp (disch := first | (simp only [go_sem, gb0, eq_self]; done) | omega | (simp only [gl1, gl2]; omega)) only [go_sem, ↓reduceIte, Nat.reduceEqDiff, Nat.reduceAdd, Nat.reduceMul, Nat.reduceSub, Int.reduceToNat, Nat.reduceBEq, s26], by simp (disch := first | (simp only [go_sem, gb0, eq_self]; done) | omega | (simp only [gl1, gl2]; omega)) only [go_sem, ↓reduceIte, Nat.reduceEqDiff, Nat.reduceAdd, Nat.reduceMul, Nat.reduceSub, Int.reduceToNat, Nat.reduceBEq, s27], by (rw [hs1]; simp (disch := first | (simp only [go_sem, gb0, eq_self]; done) | omega | (simp only [gl1, gl2]; omega)) only [go_sem, ↓reduceIte, Nat.reduceEqDiff, Nat.reduceAdd, Nat.reduceMul, Nat.reduceSub, Int.reduceToNat, Nat.reduceBEq]), hnx, by simp (disch := first | (simp only [go_sem, gb0, eq_self]; done) | omega | (simp only [gl1, gl2]; omega)) only [go_sem, ↓reduceIte, Nat.reduceEqDiff, Nat.reduceAdd, Nat.reduceMul, Nat.reduceSub, Int.reduceToNat, Nat.reduceBEq, b0], by (rw [hst2]; simp (disch := first | (simp only [go_sem, gb0, eq_self]; done) | omega | (simp only [gl1, gl2]; omega)) only [go_sem, ↓reduceIte, Nat.reduceEqDiff, Nat.reduceAdd, Nat.reduceMul, Nat.reduceSub, Int.reduceToNat, Nat.reduceBEq])⟩
            | false =>
              rw [hLm] at hst2
              simp (disch := first | (simp only [go_sem, gb0, eq_self]; done) | omega | (simp only [gl1, gl2]; omega)) only [go_sem, ↓reduceIte, Nat.reduceEqDiff, Nat.reduceAdd, Nat.reduceMul, Nat.reduceSub, Int.reduceToNat, Nat.reduceBEq, s2, s5, s6, s7, s16, s17, s18, s26, s27, s9, s28, hmn, hm6, hm6', hmr, hmr', hi6, hi6', b2, hli, hw, hLm]
              rw [ForK_normal]
              exact ⟨hmn, by simp (disch := first | (simp only [go_sem, gb0, eq_self]; done) | omega | (simp only [gl1, gl2]; omega)) only [go_sem, ↓reduceIte, Nat.reduceEqDiff, Nat.reduceAdd, Nat.reduceMul, Nat.reduceSub, Int.reduceToNat, Nat.reduceBEq, s28], by simp (disch := first | (simp only [go_sem, gb0, eq_self]; done) | omega | (simp only [gl1, gl2]; omega)) only [go_sem, ↓reduceIte, Nat.reduceEqDiff, Nat.reduceAdd, Nat.reduceMul, Nat.reduceSub, Int.reduceToNat, Nat.reduceBEq, s2], by simp (disch := first | (simp only [go_sem, gb0, eq_self]; done) | omega | (simp only [gl1, gl2]; omega)) only [go_sem, ↓reduceIte, Nat.reduceEqDiff, Nat.reduceAdd, Nat.reduceMul, Nat.reduceSub, Int.reduceToNat, Nat.reduceBEq, s5], by simp (disch := first | (simp only [go_sem, gb0, eq_self]; done) | omega | (simp only [gl1, gl2]; omega)) only [go_sem, ↓reduceIte, Nat.reduceEqDiff, Nat.reduceAdd, Nat.reduceMul, Nat.reduceSub, Int.reduceToNat, Nat.reduceBEq, s6], by simp (disch := first | (simp only [go_sem, gb0, eq_self]; done) | omega | (simp only [gl1, gl2]; omega)) only [go_sem, ↓reduceIte, Nat.reduceEqDiff, Nat.reduceAdd, Nat.reduceMul, Nat.reduceSub, Int.reduceToNat, Nat.reduceBEq, s7], by simp (disch := first | (simp only [go_sem, gb0, eq_self]; done) | omega | (simp only [gl1, gl2]; omega)) only [go_sem, ↓reduceIte, Nat.reduceEqDiff, Nat.reduceAdd, Nat.reduceMul, Nat.reduceSub, Int.reduceToNat, Nat.reduceBEq, s16], by simp (disch := first | (simp only [go_sem, gb0, eq_self]; done) | omega | (simp only [gl1, gl2]; omega)) only [go_sem, ↓reduceIte, Nat.reduceEqDiff, Nat.reduceAdd, Nat.reduceMul, Nat.reduceSub, Int.reduceToNat, Nat.reduceBEq, s17], by simp (disch := first | (simp only [go_sem, gb0, eq_self]; done) | omega | (simp only [gl1, gl2]; omega)) only [go_sem, ↓reduceIte, Nat.reduceEqDiff, Nat.reduceAdd, Nat.reduceMul, Nat.reduceSub, Int.reduceToNat, Nat.reduceBEq, s18], by simp (disch := first | (simp only [go_sem, gb0, eq_self]; done) | omega | (simp only [gl1, gl2]; omega)) only [go_sem, ↓reduceIte, Nat.reduceEqDiff, Nat.reduceAdd, Nat.reduceMul, Nat.reduceSub, Int.reduceToNat, Nat.reduceBEq, s26], by simp (disch := first | (simp only [go_sem, gb0, eq_self]; done) | omega | (simp only [gl1, gl2]; omega)) only [go_sem, ↓reduceIte, Nat.reduceEqDiff, Nat.reduceAdd, Nat.reduceMul, Nat.reduceSub, Int.reduceToNat, Nat.reduceBEq, s27], by (rw [hs1]; simp (disch := first | (simp only [go_sem, gb0, eq_self]; done) | omega | (simp only [gl1, gl2]; omega)) only [go_sem, ↓reduceIte, Nat.reduceEqDiff, Nat.reduceAdd, Nat.reduceMul, Nat.reduceSub, Int.reduceToNat, Nat.reduceBEq]), hnx, by simp (disch := first | (simp only [go_sem, gb0, eq_self]; done) | omega | (simp only [gl1, gl2]; omega)) only [go_sem, ↓reduceIte, Nat.reduceEqDiff, Nat.reduceAdd, Nat.reduceMul, Nat.reduceSub, Int.reduceToNat, Nat.reduceBEq, b0], by (rw [hst2]; simp (disch := first | (simp only [go_sem, gb0, eq_self]; done) | omega | (simp only [gl1, gl2]; omega)) only [go_sem, ↓reduceIte, Nat.reduceEqDiff, Nat.reduceAdd, Nat.reduceMul, Nat.reduceSub, Int.reduceToNat, Nat.reduceBEq])⟩
          · have hst2 : leads (wF nx) L' i (m + 1) = false := by rw [hst]; show (false || (decide (0 < nth (nth nx i) m) && L' m)) = false; simp [hw]
            simp (disch := first | (simp only [go_sem, gb0, eq_self]; done) | omega | (simp only [gl1, gl2]; omega)) only [go_sem, ↓reduceIte, Nat.reduceEqDiff, Nat.reduceAdd, Nat.reduceMul, Nat.reduceSub, Int.reduceToNat, Nat.reduceBEq, s2, s5, s6, s7, s16, s17, s18, s26, s27, s9, s28, hmn, hm6, hm6', hmr, hmr', hi6, hi6', b2, hli, hw]
            rw [ForK_normal]
            exact ⟨hmn, by simp (disch := first | (simp only [go_sem, gb0, eq_self]; done) | omega | (simp only [gl1, gl2]; omega)) only [go_sem, ↓reduceIte, Nat.reduceEqDiff, Nat.reduceAdd, Nat.reduceMul, Nat.reduceSub, Int.reduceToNat, Nat.reduceBEq, s28], by simp (disch := first | (simp only [go_sem, gb0, eq_self]; done) | omega | (simp only [gl1, gl2]; omega)) only [go_sem, ↓reduceIte, Nat.reduceEqDiff, Nat.reduceAdd, Nat.reduceMul, Nat.reduceSub, Int.reduceToNat, Nat.reduceBEq, s2], by simp (disch := first | (simp only [go_sem, gb0, eq_self]; done) | omega | (simp only [gl1, gl2]; omega)) only [go_sem, ↓reduceIte, Nat.reduceEqDiff, Nat.reduceAdd, Nat.reduceMul, Nat.reduceSub, Int.reduceToNat, Nat.reduceBEq, s5], by simp (disch := first | (simp only [go_sem, gb0, eq_self]; done) | omega | (simp only [gl1, gl2]; omega)) only [go_sem, ↓reduceIte, Nat.reduceEqDiff, Nat.reduceAdd, Nat.reduceMul, Nat.reduceSub, Int.reduceToNat, Nat.reduceBEq, s6], by simp (disch := first | (simp only [go_sem, gb0, eq_self]; done) | omega | (simp only [gl1, gl2]; omega)) only [go_sem, ↓reduceIte, Nat.reduceEqDiff, Nat.reduceAdd, Nat.reduceMul, Nat.reduceSub, Int.reduceToNat, Nat.reduceBEq, s7], by simp (disch := first | (simp only [go_sem, gb0, eq_self]; done) | omega | (simp only [gl1, gl2]; omega)) only [go_sem, ↓reduceIte, Nat.reduceEqDiff, Nat.reduceAdd, Nat.reduceMul, Nat.reduceSub, Int.reduceToNat, Nat.reduceBEq, s16], by simp (disch := first | (simp only [go_sem, gb0, eq_self]; done) | omega | (simp only [gl1, gl2]; omega)) only [go_sem, ↓reduceIte, Nat.reduceEqDiff, Nat.reduceAdd, Nat.reduceMul, Nat.reduceSub, Int.reduceToNat, Nat.reduceBEq, s17], by simp (disch := first | (simp only [go_sem, gb0, eq_self]; done) | omega | (simp only [gl1, gl2]; omega)) only [go_sem, ↓reduceIte, Nat.reduceEqDiff, Nat.reduceAdd, Nat.reduceMul, Nat.reduceSub, Int.reduceToNat, Nat.reduceBEq, s18], by simp (disch := first | (simp only [go_sem, gb0, eq_self]; done) | omega | (simp only [gl1, gl2]; omega)) only [go_sem, ↓reduceIte, Nat.reduceEqDiff, Nat.reduceAdd, Nat.reduceMul, Nat.reduceSub, Int.reduceToNat, Nat.reduceBEq, s26], by simp (disch := first | (simp only [go_sem, gb0, eq_self]; done) | omega | (simp only [gl1, gl2]; omega)) only [go_sem, ↓reduceIte, Nat.reduceEqDiff, Nat.reduceAdd, Nat.reduceMul, Nat.reduceSub, Int.reduceToNat, Nat.reduceBEq, s27], by (rw [hs1]; simp (disch := first | (simp only [go_sem, gb0, eq_self]; done) | omega | (simp only [gl1, gl2]; omega)) only [go_sem, ↓reduceIte, Nat.reduceEqDiff, Nat.reduceAdd, Nat.reduceMul, Nat.reduceSub, Int.reduceToNat, Nat.reduceBEq]), hnx, by simp (disch := first | (simp only [go_sem, gb0, eq_self]; done) | omega | (simp only [gl1, gl2]; omega)) only [go_sem, ↓reduceIte, Nat.reduceEqDiff, Nat.reduceAdd, Nat.reduceMul, Nat.reduceSub, Int.reduceToNat, Nat.reduceBEq, b0], by (rw [hst2]; simp (disch := first | (simp only [go_sem, gb0, eq_self]; done) | omega | (simp only [gl1, gl2]; omega)) only [go_sem, ↓reduceIte, Nat.reduceEqDiff, Nat.reduceAdd, Nat.reduceMul, Nat.reduceSub, Int.reduceToNat, Nat.reduceBEq])⟩
      · rintro st h ⟨s2, s5, s6, s7, s16, s17, s18, s9, hnx, b0, b2⟩
        have hle : cntF L' ≤ cntF L := by
          cases g with
          | true => exact Nat.le_of_lt (hg1 rfl)
          | false => rw [(hg2 rfl).1]; exact Nat.le_refl _
        have hyes : (leads (wF nx) L' i n || decide (sumN (wF nx i) n < 4)) = true → Left n (wF nx) (ruleB x) (setB L' i true) ∧ cntF (setB L' i true) < cntF L := fun hv => by
          refine ⟨?_, ?_⟩
          · have CC := C.chn
            rw [← hn] at CC
            exact hL'.grow CC hlt hv
          · have := cntF_set hi6 hli; omega
        cases hb : leads (wF nx) L' i n with
        | true =>
          rw [hb] at b2 hyes
          obtain ⟨y1, y2⟩ := hyes rfl
          have hat := setB_at L' i true
          have hse := setB_twice L' i true true
          cases g with
          | true =>
            simp (disch := first | (simp only [go_sem, gb0, eq_self]; done) | omega | (simp only [gl1, gl2]; omega)) only [go_sem, ↓reduceIte, Nat.reduceEqDiff, Nat.reduceAdd, Nat.reduceMul, Nat.reduceSub, Int.reduceToNat, Nat.reduceBEq, s2, s5, s6, s7, s16, s17, s18, s9, hi6, hi6', b2, hat, hse]
            rw [ForK_normal]
            exact ⟨hlt, by simp (disch := first | (simp only [go_sem, gb0, eq_self]; done) | omega | (simp only [gl1, gl2]; omega)) only [go_sem, ↓reduceIte, Nat.reduceEqDiff, Nat.reduceAdd, Nat.reduceMul, Nat.reduceSub, Int.reduceToNat, Nat.reduceBEq, s18], by simp (disch := first | (simp only [go_sem, gb0, eq_self]; done) | omega | (simp only [gl1, gl2]; omega)) only [go_sem, ↓reduceIte, Nat.reduceEqDiff, Nat.reduceAdd, Nat.reduceMul, Nat.reduceSub, Int.reduceToNat, Nat.reduceBEq, s2], by simp (disch := first | (simp only [go_sem, gb0, eq_self]; done) | omega | (simp only [gl1, gl2]; omega)) only [go_sem, ↓reduceIte, Nat.reduceEqDiff, Nat.reduceAdd, Nat.reduceMul, Nat.reduceSub, Int.reduceToNat, Nat.reduceBEq, s5], by simp (disch := first | (simp only [go_sem, gb0, eq_self]; done) | omega | (simp only [gl1, gl2]; omega)) only [go_sem, ↓reduceIte, Nat.reduceEqDiff, Nat.reduceAdd, Nat.reduceMul, Nat.reduceSub, Int.reduceToNat, Nat.reduceBEq, s16], by simp (disch := first | (simp only [go_sem, gb0, eq_self]; done) | omega | (simp only [gl1, gl2]; omega)) only [go_sem, ↓reduceIte, Nat.reduceEqDiff, Nat.reduceAdd, Nat.reduceMul, Nat.reduceSub, Int.reduceToNat, Nat.reduceBEq, s17], hnx, by simp (disch := first | (simp only [go_sem, gb0, eq_self]; done) | omega | (simp only [gl1, gl2]; omega)) only [go_sem, ↓reduceIte, Nat.reduceEqDiff, Nat.reduceAdd, Nat.reduceMul, Nat.reduceSub, Int.reduceToNat, Nat.reduceBEq, b0], true, _, by simp (disch := first | (simp only [go_sem, gb0, eq_self]; done) | omega | (simp only [gl1, gl2]; omega)) only [go_sem, ↓reduceIte, Nat.reduceEqDiff, Nat.reduceAdd, Nat.reduceMul, Nat.reduceSub, Int.reduceToNat, Nat.reduceBEq, s6], by simp (disch := first | (simp only [go_sem, gb0, eq_self]; done) | omega | (simp only [gl1, gl2]; omega)) only [go_sem, ↓reduceIte, Nat.reduceEqDiff, Nat.reduceAdd, Nat.reduceMul, Nat.reduceSub, Int.reduceToNat, Nat.reduceBEq], y1, fun _ => y2, fun h => by cases h⟩
          | false =>
            simp (disch := first | (simp only [go_sem, gb0, eq_self]; done) | omega | (simp only [gl1, gl2]; omega)) only [go_sem, ↓reduceIte, Nat.reduceEqDiff, Nat.reduceAdd, Nat.reduceMul, Nat.reduceSub, Int.reduceToNat, Nat.reduceBEq, s2, s5, s6, s7, s16, s17, s18, s9, hi6, hi6', b2, hat, hse]
            rw [ForK_normal]
            exact ⟨hlt, by simp (disch := first | (simp only [go_sem, gb0, eq_self]; done) | omega | (simp only [gl1, gl2]; omega)) only [go_sem, ↓reduceIte, Nat.reduceEqDiff, Nat.reduceAdd, Nat.reduceMul, Nat.reduceSub, Int.reduceToNat, Nat.reduceBEq, s18], by simp (disch := first | (simp only [go_sem, gb0, eq_self]; done) | omega | (simp only [gl1, gl2]; omega)) only [go_sem, ↓reduceIte, Nat.reduceEqDiff, Nat.reduceAdd, Nat.reduceMul, Nat.reduceSub, Int.reduceToNat, Nat.reduceBEq, s2], by simp (disch := first | (simp only [go_sem, gb0, eq_self]; done) | omega | (simp only [gl1, gl2]; omega)) only [go_sem, ↓reduceIte, Nat.reduceEqDiff, Nat.reduceAdd, Nat.reduceMul, Nat.reduceSub, Int.reduceToNat, Nat.reduceBEq, s5], by simp (disch := first | (simp only [go_sem, gb0, eq_self]; done) | omega | (simp only [gl1, gl2]; omega)) only [go_sem, ↓reduceIte, Nat.reduceEqDiff, Nat.reduceAdd, Nat.reduceMul, Nat.reduceSub, Int.reduceToNat, Nat.reduceBEq, s16], by simp (disch := first | (simp only [go_sem, gb0, eq_self]; done) | omega | (simp only [gl1, gl2]; omega)) only [go_sem, ↓reduceIte, Nat.reduceEqDiff, Nat.reduceAdd, Nat.reduceMul, Nat.reduceSub, Int.reduceToNat, Nat.reduceBEq, s17], hnx, by simp (disch := first | (simp only [go_sem, gb0, eq_self]; done) | omega | (simp only [gl1, gl2]; omega)) only [go_sem, ↓reduceIte, Nat.reduceEqDiff, Nat.reduceAdd, Nat.reduceMul, Nat.reduceSub, Int.reduceToNat, Nat.reduceBEq, b0], true, _, by simp (disch := first | (simp only [go_sem, gb0, eq_self]; done) | omega | (simp only [gl1, gl2]; omega)) only [go_sem, ↓reduceIte, Nat.reduceEqDiff, Nat.reduceAdd, Nat.reduceMul, Nat.reduceSub, Int.reduceToNat, Nat.reduceBEq, s6], by simp (disch := first | (simp only [go_sem, gb0, eq_self]; done) | omega | (simp only [gl1, gl2]; omega)) only [go_sem, ↓reduceIte, Nat.reduceEqDiff, Nat.reduceAdd, Nat.reduceMul, Nat.reduceSub, Int.reduceToNat, Nat.reduceBEq], y1, fun _ => y2, fun h => by cases h⟩
        | false =>
          rw [hb, setB_same hli] at b2
          rw [hb] at hyes
          by_cases h4 : sumN (wF nx i) n < 4
          · obtain ⟨y1, y2⟩ := hyes (by simp [h4])
            have hat := setB_at L' i true
            cases g with
            | true =>
              simp (disch := first | (simp only [go_sem, gb0, eq_self]; done) | omega | (simp only [gl1, gl2]; omega)) only [go_sem, ↓reduceIte, Nat.reduceEqDiff, Nat.reduceAdd, Nat.reduceMul, Nat.reduceSub, Int.reduceToNat, Nat.reduceBEq, s2, s5, s6, s7, s16, s17, s18, s9, hi6, hi6', b2, hli, h4, hat]
              rw [ForK_normal]
              exact ⟨hlt, by simp (disch := first | (simp only [go_sem, gb0, eq_self]; done) | omega | (simp only [gl1, gl2]; omega)) only [go_sem, ↓reduceIte, Nat.reduceEqDiff, Nat.reduceAdd, Nat.reduceMul, Nat.reduceSub, Int.reduceToNat, Nat.reduceBEq, s18], by simp (disch := first | (simp only [go_sem, gb0, eq_self]; done) | omega | (simp only [gl1, gl2]; omega)) only [go_sem, ↓reduceIte, Nat.reduceEqDiff, Nat.reduceAdd, Nat.reduceMul, Nat.reduceSub, Int.reduceToNat, Nat.reduceBEq, s2], by simp (disch := first | (simp only [go_sem, gb0, eq_self]; done) | omega | (simp only [gl1, gl2]; omega)) only [go_sem, ↓reduceIte, Nat.reduceEqDiff, Nat.reduceAdd, Nat.reduceMul, Nat.reduceSub, Int.reduceToNat, Nat.reduceBEq, s5], by simp (disch := first | (simp only [go_sem, gb0, eq_self]; done) | omega | (simp only [gl1, gl2]; omega)) only [go_sem, ↓reduceIte, Nat.reduceEqDiff, Nat.reduceAdd, Nat.reduceMul, Nat.reduceSub, Int.reduceToNat, Nat.reduceBEq, s16], by simp (disch := first | (simp only [go_sem, gb0, eq_self]; done) | omega | (simp only [gl1, gl2]; omega)) only [go_sem, ↓reduceIte, Nat.reduceEqDiff, Nat.reduceAdd, Nat.reduceMul, Nat.reduceSub, Int.reduceToNat, Nat.reduceBEq, s17], hnx, by simp (disch := first | (simp only [go_sem, gb0, eq_self]; done) | omega | (simp only [gl1, gl2]; omega)) only [go_sem, ↓reduceIte, Nat.reduceEqDiff, Nat.reduceAdd, Nat.reduceMul, Nat.reduceSub, Int.reduceToNat, Nat.reduceBEq, b0], true, _, by simp (disch := first | (simp only [go_sem, gb0, eq_self]; done) | omega | (simp only [gl1, gl2]; omega)) only [go_sem, ↓reduceIte, Nat.reduceEqDiff, Nat.reduceAdd, Nat.reduceMul, Nat.reduceSub, Int.reduceToNat, Nat.reduceBEq, s6], by simp (disch := first | (simp only [go_sem, gb0, eq_self]; done) | omega | (simp only [gl1, gl2]; omega)) only [go_sem, ↓reduceIte, Nat.reduceEqDiff, Nat.reduceAdd, Nat.reduceMul, Nat.reduceSub, Int.reduceToNat, Nat.reduceBEq], y1, fun _ => y2, fun h => by cases h⟩
            | false =>
              simp (disch := first | (simp only [go_sem, gb0, eq_self]; done) | omega | (simp only [gl1, gl2]; omega)) only [go_sem, ↓reduceIte, Nat.reduceEqDiff, Nat.reduceAdd, Nat.reduceMul, Nat.reduceSub, Int.reduceToNat, Nat.reduceBEq, s2, s5, s6, s7, s16, s17, s18, s9, hi6, hi6', b2, hli, h4, hat]
              rw [ForK_normal]
              exact ⟨hlt, by simp (disch := first | (simp only [go_sem, gb0, eq_self]; done) | omega | (simp only [gl1, gl2]; omega)) only [go_sem, ↓reduceIte, Nat.reduceEqDiff, Nat.reduceAdd, Nat.reduceMul, Nat.reduceSub, Int.reduceToNat, Nat.reduceBEq, s18], by simp (disch := first | (simp only [go_sem, gb0, eq_self]; done) | omega | (simp only [gl1, gl2]; omega)) only [go_sem, ↓reduceIte, Nat.reduceEqDiff, Nat.reduceAdd, Nat.reduceMul, Nat.reduceSub, Int.reduceToNat, Nat.reduceBEq, s2], by simp (disch := first | (simp only [go_sem, gb0, eq_self]; done) | omega | (simp only [gl1, gl2]; omega)) only [go_sem, ↓reduceIte, Nat.reduceEqDiff, Nat.reduceAdd, Nat.reduceMul, Nat.reduceSub, Int.reduceToNat, Nat.reduceBEq, s5], by simp (disch := first | (simp only [go_sem, gb0, eq_self]; done) | omega | (simp only [gl1, gl2]; omega)) only [go_sem, ↓reduceIte, Nat.reduceEqDiff, Nat.reduceAdd, Nat.reduceMul, Nat.reduceSub, Int.reduceToNat, Nat.reduceBEq, s16], by simp (disch := first | (simp only [go_sem, gb0, eq_self]; done) | omega | (simp only [gl1, gl2]; omega)) only [go_sem, ↓reduceIte, Nat.reduceEqDiff, Nat.reduceAdd, Nat.reduceMul, Nat.reduceSub, Int.reduceToNat, Nat.reduceBEq, s17], hnx, by simp (disch := first | (simp only [go_sem, gb0, eq_self]; done) | omega | (simp only [gl1, gl2]; omega)) only [go_sem, ↓reduceIte, Nat.reduceEqDiff, Nat.reduceAdd, Nat.reduceMul, Nat.reduceSub, Int.reduceToNat, Nat.reduceBEq, b0], true, _, by simp (disch := first | (simp only [go_sem, gb0, eq_self]; done) | omega | (simp only [gl1, gl2]; omega)) only [go_sem, ↓reduceIte, Nat.reduceEqDiff, Nat.reduceAdd, Nat.reduceMul, Nat.reduceSub, Int.reduceToNat, Nat.reduceBEq, s6], by simp (disch := first | (simp only [go_sem, gb0, eq_self]; done) | omega | (simp only [gl1, gl2]; omega)) only [go_sem, ↓reduceIte, Nat.reduceEqDiff, Nat.reduceAdd, Nat.reduceMul, Nat.reduceSub, Int.reduceToNat, Nat.reduceBEq], y1, fun _ => y2, fun h => by cases h⟩
          · have hat := setB_at L' i false
            have hsf := setB_same hli
            have hsum : sumN (wF nx i) n = 4 := by have := C.chn.w4 i hi1; rw [← hn] at this; show sumN (fun j => nth (nth nx i) j) n = 4; have h5 : ¬ sumN (fun j => nth (nth nx i) j) n < 4 := h4; omega
            have hext : g = false → L' = L ∧ stab n (wF nx) L (i + 1) := fun h => by
              obtain ⟨e, s⟩ := hg2 h
              refine ⟨e, fun k hk hlk => ?_⟩
              by_cases hki : k = i
              · subst hki; rw [← e]; exact ⟨hsum, leads_no hb⟩
              · exact s k (by omega) hlk
            cases g with
            | true =>
              simp (disch := first | (simp only [go_sem, gb0, eq_self]; done) | omega | (simp only [gl1, gl2]; omega)) only [go_sem, ↓reduceIte, Nat.reduceEqDiff, Nat.reduceAdd, Nat.reduceMul, Nat.reduceSub, Int.reduceToNat, Nat.reduceBEq, s2, s5, s6, s7, s16, s17, s18, s9, hi6, hi6', b2, hli, h4, hsf]
              rw [ForK_normal]
              exact ⟨hlt, by simp (disch := first | (simp only [go_sem, gb0, eq_self]; done) | omega | (simp only [gl1, gl2]; omega)) only [go_sem, ↓reduceIte, Nat.reduceEqDiff, Nat.reduceAdd, Nat.reduceMul, Nat.reduceSub, Int.reduceToNat, Nat.reduceBEq, s18], by simp (disch := first | (simp only [go_sem, gb0, eq_self]; done) | omega | (simp only [gl1, gl2]; omega)) only [go_sem, ↓reduceIte, Nat.reduceEqDiff, Nat.reduceAdd, Nat.reduceMul, Nat.reduceSub, Int.reduceToNat, Nat.reduceBEq, s2], by simp (disch := first | (simp only [go_sem, gb0, eq_self]; done) | omega | (simp only [gl1, gl2]; omega)) only [go_sem, ↓reduceIte, Nat.reduceEqDiff, Nat.reduceAdd, Nat.reduceMul, Nat.reduceSub, Int.reduceToNat, Nat.reduceBEq, s5], by simp (disch := first | (simp only [go_sem, gb0, eq_self]; done) | omega | (simp only [gl1, gl2]; omega)) only [go_sem, ↓reduceIte, Nat.reduceEqDiff, Nat.reduceAdd, Nat.reduceMul, Nat.reduceSub, Int.reduceToNat, Nat.reduceBEq, s16], by simp (disch := first | (simp only [go_sem, gb0, eq_self]; done) | omega | (simp only [gl1, gl2]; omega)) only [go_sem, ↓reduceIte, Nat.reduceEqDiff, Nat.reduceAdd, Nat.reduceMul, Nat.reduceSub, Int.reduceToNat, Nat.reduceBEq, s17], hnx, by simp (disch := first | (simp only [go_sem, gb0, eq_self]; done) | omega | (simp only [gl1, gl2]; omega)) only [go_sem, ↓reduceIte, Nat.reduceEqDiff, Nat.reduceAdd, Nat.reduceMul, Nat.reduceSub, Int.reduceToNat, Nat.reduceBEq, b0], true, L', by simp (disch := first | (simp only [go_sem, gb0, eq_self]; done) | omega | (simp only [gl1, gl2]; omega)) only [go_sem, ↓reduceIte, Nat.reduceEqDiff, Nat.reduceAdd, Nat.reduceMul, Nat.reduceSub, Int.reduceToNat, Nat.reduceBEq, s6], by simp (disch := first | (simp only [go_sem, gb0, eq_self]; done) | omega | (simp only [gl1, gl2]; omega)) only [go_sem, ↓reduceIte, Nat.reduceEqDiff, Nat.reduceAdd, Nat.reduceMul, Nat.reduceSub, Int.reduceToNat, Nat.reduceBEq], hL', hg1, hext⟩
            | false =>
              simp (disch := first | (simp only [go_sem, gb0, eq_self]; done) | omega | (simp only [gl1, gl2]; omega)) only [go_sem, ↓reduceIte, Nat.reduceEqDiff, Nat.reduceAdd, Nat.reduceMul, Nat.reduceSub, Int.reduceToNat, Nat.reduceBEq, s2, s5, s6, s7, s16, s17, s18, s9, hi6, hi6', b2, hli, h4, hsf]
              rw [ForK_normal]
              exact ⟨hlt, by simp (disch := first | (simp only [go_sem, gb0, eq_self]; done) | omega | (simp only [gl1, gl2]; omega)) only [go_sem, ↓reduceIte, Nat.reduceEqDiff, Nat.reduceAdd, Nat.reduceMul, Nat.reduceSub, Int.reduceToNat, Nat.reduceBEq, s18], by simp (disch := first | (simp only [go_sem, gb0, eq_self]; done) | omega | (simp only [gl1, gl2]; omega)) only [go_sem, ↓reduceIte, Nat.reduceEqDiff, Nat.reduceAdd, Nat.reduceMul, Nat.reduceSub, Int.reduceToNat, Nat.reduceBEq, s2], by simp (disch := first | (simp only [go_sem, gb0, eq_self]; done) | omega | (simp only [gl1, gl2]; omega)) only [go_sem, ↓reduceIte, Nat.reduceEqDiff, Nat.reduceAdd, Nat.reduceMul, Nat.reduceSub, Int.reduceToNat, Nat.reduceBEq, s5], by simp (disch := first | (simp only [go_sem, gb0, eq_self]; done) | omega | (simp only [gl1, gl2]; omega)) only [go_sem, ↓reduceIte, Nat.reduceEqDiff, Nat.reduceAdd, Nat.reduceMul, Nat.reduceSub, Int.reduceToNat, Nat.reduceBEq, s16], by simp (disch := first | (simp only [go_sem, gb0, eq_self]; done) | omega | (simp only [gl1, gl2]; omega)) only [go_sem, ↓reduceIte, Nat.reduceEqDiff, Nat.reduceAdd, Nat.reduceMul, Nat.reduceSub, Int.reduceToNat, Nat.reduceBEq, s17], hnx, by simp (disch := first | (simp only [go_sem, gb0, eq_self]; done) | omega | (simp only [gl1, gl2]; omega)) only [go_sem, ↓reduceIte, Nat.reduceEqDiff, Nat.reduceAdd, Nat.reduceMul, Nat.reduceSub, Int.reduceToNat, Nat.reduceBEq, b0], false, L', by simp (disch := first | (simp only [go_sem, gb0, eq_self]; done) | omega | (simp only [gl1, gl2]; omega)) only [go_sem, ↓reduceIte, Nat.reduceEqDiff, Nat.reduceAdd, Nat.reduceMul, Nat.reduceSub, Int.reduceToNat, Nat.reduceBEq, s6], by simp (disch := first | (simp only [go_sem, gb0, eq_self]; done) | omega | (simp only [gl1, gl2]; omega)) only [go_sem, ↓reduceIte, Nat.reduceEqDiff, Nat.reduceAdd, Nat.reduceMul, Nat.reduceSub, Int.reduceToNat, Nat.reduceBEq], hL', hg1, hext⟩
    · rintro st h ⟨s2, s5, hnx, b0, g, L', s6, b2, hL', hg1, hg2⟩
      rw [BlockK_normal, LoopK_normal]
      refine ⟨if g then cntF L' + 1 else 0, ?_, g, L', rfl, s2, s5, s6, hnx, b0, b2, hL', hg2⟩
      cases g with
      | true => have := hg1 rfl; simp only [if_true]; omega
      | false => simp
  · rintro st h ⟨s2, s5, hnx, b0, L, b2, hL, hS⟩
    have hsd := hL.sound hS
    have hres : ∀ b, (b = true ↔ ∀ i, i < n → L i = true) → sndB nx.length (wF nx) x = b := fun b hb => by
      have : sndB nx.length (wF nx) x = true ↔ b = true := by rw [sndB_iff, ← hn, hsd, hb]
      cases b with
      | true => exact this.2 rfl
      | false => exact Bool.eq_false_iff.2 fun h => by cases this.1 h
    simp (disch := first | (simp only [go_sem, gb0, eq_self]; done) | omega | (simp only [gl1, gl2]; omega)) only [go_sem, ↓reduceIte, Nat.reduceEqDiff, Nat.reduceAdd, Nat.reduceMul, Nat.reduceSub, Int.reduceToNat, Nat.reduceBEq, s2, s5, b0]
    refine WP_for 70 n (fun i st h => st 5 = .ptr 2 0 ∧ st 69 = I n ∧ h.bl 2 = some (.cells false false (bolA L)) ∧ ∀ k, k < i → L k = true) (by simp (disch := first | (simp only [go_sem, gb0, eq_self]; done) | omega | (simp only [gl1, gl2]; omega)) only [go_sem, ↓reduceIte, Nat.reduceEqDiff, Nat.reduceAdd, Nat.reduceMul, Nat.reduceSub, Int.reduceToNat, Nat.reduceBEq]) ⟨by simp (disch := first | (simp only [go_sem, gb0, eq_self]; done) | omega | (simp only [gl1, gl2]; omega)) only [go_sem, ↓reduceIte, Nat.reduceEqDiff, Nat.reduceAdd, Nat.reduceMul, Nat.reduceSub, Int.reduceToNat, Nat.reduceBEq, s5], by simp (disch := first | (simp only [go_sem, gb0, eq_self]; done) | omega | (simp only [gl1, gl2]; omega)) only [go_sem, ↓reduceIte, Nat.reduceEqDiff, Nat.reduceAdd, Nat.reduceMul, Nat.reduceSub, Int.reduceToNat, Nat.reduceBEq, hn], b2, fun k hk => by omega⟩ ?_
    rintro i st h hi s70 ⟨s5, s69, b2, hall⟩
    by_cases hlt : i < n
    case neg =>
      have hr := hres true ⟨fun _ k hk => hall k (by omega), fun _ => rfl⟩
      simp (disch := first | (simp only [go_sem, gb0, eq_self]; done) | omega | (simp only [gl1, gl2]; omega)) only [go_sem, ↓reduceIte, Nat.reduceEqDiff, Nat.reduceAdd, Nat.reduceMul, Nat.reduceSub, Int.reduceToNat, Nat.reduceBEq, s5, s69, s70, hlt, hr]
    obtain ⟨hi1, hi6, hi6', hi2⟩ := hnn i hlt
    cases hli : L i with
    | true =>
      simp (disch := first | (simp only [go_sem, gb0, eq_self]; done) | omega | (simp only [gl1, gl2]; omega)) only [go_sem, ↓reduceIte, Nat.reduceEqDiff, Nat.reduceAdd, Nat.reduceMul, Nat.reduceSub, Int.reduceToNat, Nat.reduceBEq, s5, s69, s70, hlt, hi6, hi6', b2, hli]
      rw [ForK_normal]
      refine ⟨hlt, by simp (disch := first | (simp only [go_sem, gb0, eq_self]; done) | omega | (simp only [gl1, gl2]; omega)) only [go_sem, ↓reduceIte, Nat.reduceEqDiff, Nat.reduceAdd, Nat.reduceMul, Nat.reduceSub, Int.reduceToNat, Nat.reduceBEq, s70], by simp (disch := first | (simp only [go_sem, gb0, eq_self]; done) | omega | (simp only [gl1, gl2]; omega)) only [go_sem, ↓reduceIte, Nat.reduceEqDiff, Nat.reduceAdd, Nat.reduceMul, Nat.reduceSub, Int.reduceToNat, Nat.reduceBEq, s5], by simp (disch := first | (simp only [go_sem, gb0, eq_self]; done) | omega | (simp only [gl1, gl2]; omega)) only [go_sem, ↓reduceIte, Nat.reduceEqDiff, Nat.reduceAdd, Nat.reduceMul, Nat.reduceSub, Int.reduceToNat, Nat.reduceBEq, s69], b2, fun k hk => ?_⟩
      by_cases hki : k = i
      · subst hki; exact hli
      · exact hall k (by omega)
    | false =>
      have hr := hres false ⟨fun h => (by cases h), fun h => (by rw [h i hlt] at hli; cases hli)⟩
      simp (disch := first | (simp only [go_sem, gb0, eq_self]; done) | omega | (simp only [gl1, gl2]; omega)) only [go_sem, ↓reduceIte, Nat.reduceEqDiff, Nat.reduceAdd, Nat.reduceMul, Nat.reduceSub, Int.reduceToNat, Nat.reduceBEq, s5, s69, s70, hlt, hi6, hi6', b2, hli, hr]
end Go.Proofs.Ytgamcclfdkpcgaa

set_option linter.unusedVariables false
set_option linter.unusedSimpArgs false
set_option maxRecDepth 10000
namespace Go.Proofs.Ytgamcclfdkpcgaa
open Go Go.Am

variable {h h' : Hp} {K : AV → Hp → Prop}

def rowB (r : List Int) : Bool := (List.range r.length).all (fun j => inB (nth r j) 0 4) && decide (sumN (fun j => nth r j) r.length ≤ 4)
def stB (nx : List (List Int)) (pay cost : List Int) (i : Nat) : Bool := decide ((nth nx i).length = nx.length) && (inB (nth pay i) 0 1000 && (inB (nth cost i) 0 100 && rowB (nth nx i)))
def chB (nx : List (List Int)) (pay cost : List Int) : Bool := inB nx.length 1 6 && (decide (pay.length = nx.length) && (decide (cost.length = nx.length) && (List.range nx.length).all (stB nx pay cost)))
theorem allR {n : Nat} {p : Nat → Bool} (h : ∀ i, i < n → p i = true) : (List.range n).all p = true := List.all_eq_true.2 fun x hx => h x (List.mem_range.1 hx)
theorem notR {n i : Nat} {p : Nat → Bool} (hi : i < n) (h : p i = false) : (List.range n).all p = false := List.all_eq_false.2 ⟨i, List.mem_range.2 hi, by rw [h]; decide⟩
theorem ofR {n i : Nat} {p : Nat → Bool} (h : (List.range n).all p = true) (hi : i < n) : p i = true := List.all_eq_true.1 h i (List.mem_range.2 hi)
theorem okC.of {nx : List (List Int)} {pay cost : List Int} (h : chB nx pay cost = true) : okC nx pay cost := by
  simp only [chB, Bool.and_eq_true, decide_eq_true_eq, inB] at h
  obtain ⟨⟨h1, h6⟩, hp, hc, hall⟩ := h
  have hs := fun i hi => ofR (i := i) hall hi
  simp only [stB, rowB, Bool.and_eq_true, decide_eq_true_eq, inB] at hs
  have hrow : ∀ i, i < nx.length → (nth nx i).length = nx.length := fun i hi => (hs i hi).1
  refine ⟨by omega, by omega, hrow, hp, hc, fun i j hi hj => ?_, fun i hi => ?_, fun i hi => (hs i hi).2.1, fun i hi => (hs i hi).2.2.1⟩
  · have := ofR (i := j) (hs i hi).2.2.2.1 (by rw [hrow i hi]; exact hj)
    simp only [Bool.and_eq_true, decide_eq_true_eq] at this
    exact this.1
  · have := (hs i hi).2.2.2.2
    rw [hrow i hi] at this; exact this
theorem st_no {nx : List (List Int)} {pay cost : List Int} {i : Nat} (hi : i < nx.length) (h : stB nx pay cost i = false) : chB nx pay cost = false := by
  rw [chB, notR hi h, Bool.and_false, Bool.and_false, Bool.and_false]
theorem sum4 {r : List Int} {j : Nat} (h : ∀ k, k < j → inB (nth r k) 0 4 = true) : 0 ≤ sumN (fun k => nth r k) j ∧ sumN (fun k => nth r k) j ≤ 4 * j := by
  have := sumN_bounds (f := fun k => nth r k) (lo := 0) (hi := 4) (n := j) fun k hk => by
    have := h k hk
    simp only [inB, Bool.and_eq_true, decide_eq_true_eq] at this
    omega
  omega

theorem f48_con (nx : List (List Int)) (pay cost : List Int) (hk : okN nx pay cost) : Con Try.prog cfg 48 [chA nx pay cost] (.bool (chB nx pay cost)) := by
  have ml : maxLen = 9223372036854775807 := by decide
  have hkn := hk.n
  have hkp := hk.p
  have hkc := hk.c
  have hal : ∀ g : Hp, allocB g (some (chA nx pay cost)) = some (.ptr g.nx 0, g.alloc (.cells false false [LLI nx, LI pay, LI cost])) := fun g => allocB_agg _ rfl
  obtain ⟨b, hb⟩ : ∃ b, b = chB nx pay cost := ⟨_, rfl⟩
  rw [← hb]
  cases c1 : inB nx.length 1 6 with
  | false =>
    have hr : b = false := by rw [hb, chB, c1]; rfl
    refine Con_intro Try.func48 rfl ok48 (Nat.le_of_ble_eq_true rfl) rfl ?_
    simp only [Try.f48, Option.getD_some, initSt1]
    simp (disch := first | (simp only [go_sem, gb0, eq_self]; done) | omega | (simp only [gl1, gl2]; omega)) only [go_sem, ↓reduceIte, Nat.reduceEqDiff, Nat.reduceAdd, Nat.reduceMul, Nat.reduceSub, Int.reduceToNat, Nat.reduceBEq, hal, c1, hr]
  | true =>
  by_cases c2 : pay.length = nx.length
  case neg =>
    have hr : b = false := by rw [hb, chB, decide_eq_false c2]; simp
    have c2' : ¬ (pay.length : Int) = nx.length := by omega
    refine Con_intro Try.func48 rfl ok48 (Nat.le_of_ble_eq_true rfl) rfl ?_
    simp only [Try.f48, Option.getD_some, initSt1]
    simp (disch := first | (simp only [go_sem, gb0, eq_self]; done) | omega | (simp only [gl1, gl2]; omega)) only [go_sem, ↓reduceIte, Nat.reduceEqDiff, Nat.reduceAdd, Nat.reduceMul, Nat.reduceSub, Int.reduceToNat, Nat.reduceBEq, hal, c1, c2, hr, List.drop_succ_cons]
  by_cases c3 : cost.length = nx.length
  case neg =>
    have hr : b = false := by rw [hb, chB, decide_eq_false c3]; simp
    have c3' : ¬ (cost.length : Int) = nx.length := by omega
    refine Con_intro Try.func48 rfl ok48 (Nat.le_of_ble_eq_true rfl) rfl ?_
    simp only [Try.f48, Option.getD_some, initSt1]
    simp (disch := first | (simp only [go_sem, gb0, eq_self]; done) | omega | (simp only [gl1, gl2]; omega)) only [go_sem, ↓reduceIte, Nat.reduceEqDiff, Nat.reduceAdd, Nat.reduceMul, Nat.reduceSub, Int.reduceToNat, Nat.reduceBEq, hal, c1, c2, c3, hr, eq_self, decide_true, Bool.not_true, List.drop_succ_cons]
  have c1' := c1
  simp only [inB, Bool.and_eq_true, decide_eq_true_eq] at c1'
  obtain ⟨n, hn⟩ : ∃ n, n = nx.length := ⟨_, rfl⟩
  have hno : ∀ i, i < n → stB nx pay cost i = false → b = false := fun i hi h => by rw [hb]; exact st_no (by omega) h
  have hyes : (∀ i, i < n → stB nx pay cost i = true) → b = true := fun h => by
    rw [hb, chB, c1, c2, c3, allR fun i hi => h i (by omega)]; simp
  have c1n := c1
  have c2n := c2
  have c3n := c3
  rw [← hn] at c1n c2n c3n
  refine Con_intro Try.func48 rfl ok48 (Nat.le_of_ble_eq_true rfl) rfl ?_
  simp only [Try.f48, Option.getD_some, initSt1]
  simp (disch := first | (simp only [go_sem, gb0, eq_self]; done) | omega | (simp only [gl1, gl2]; omega)) only [go_sem, ↓reduceIte, Nat.reduceEqDiff, Nat.reduceAdd, Nat.reduceMul, Nat.reduceSub, Int.reduceToNat, Nat.reduceBEq, hal, c1n, c2n, c3n, eq_self, decide_true, Bool.not_true, List.drop_succ_cons, ← hn]
  refine WP_for 32 n (fun i st h => st 1 = .ptr 0 0 ∧ st 3 = I n ∧ st 30 = LLI nx ∧ st 31 = I n ∧ h.bl 0 = some (.cells false false [LLI nx, LI pay, LI cost]) ∧ ∀ k, k < i → stB nx pay cost k = true) (by simp (disch := first | (simp only [go_sem, gb0, eq_self]; done) | omega | (simp only [gl1, gl2]; omega)) only [go_sem, ↓reduceIte, Nat.reduceEqDiff, Nat.reduceAdd, Nat.reduceMul, Nat.reduceSub, Int.reduceToNat, Nat.reduceBEq]) ⟨by simp (disch := first | (simp only [go_sem, gb0, eq_self]; done) | omega | (simp only [gl1, gl2]; omega)) only [go_sem, ↓reduceIte, Nat.reduceEqDiff, Nat.reduceAdd, Nat.reduceMul, Nat.reduceSub, Int.reduceToNat, Nat.reduceBEq], by simp (disch := first | (simp only [go_sem, gb0, eq_self]; done) | omega | (simp only [gl1, gl2]; omega)) only [go_sem, ↓reduceIte, Nat.reduceEqDiff, Nat.reduceAdd, Nat.reduceMul, Nat.reduceSub, Int.reduceToNat, Nat.reduceBEq], by simp (disch := first | (simp only [go_sem, gb0, eq_self]; done) | omega | (simp only [gl1, gl2]; omega)) only [go_sem, ↓reduceIte, Nat.reduceEqDiff, Nat.reduceAdd, Nat.reduceMul, Nat.reduceSub, Int.reduceToNat, Nat.reduceBEq], by simp (disch := first | (simp only [go_sem, gb0, eq_self]; done) | omega | (simp only [gl1, gl2]; omega)) only [go_sem, ↓reduceIte, Nat.reduceEqDiff, Nat.reduceAdd, Nat.reduceMul, Nat.reduceSub, Int.reduceToNat, Nat.reduceBEq], by simp (disch := first | (simp only [go_sem, gb0, eq_self]; done) | omega | (simp only [gl1, gl2]; omega)) only [go_sem, ↓reduceIte, Nat.reduceEqDiff, Nat.reduceAdd, Nat.reduceMul, Nat.reduceSub, Int.reduceToNat, Nat.reduceBEq], by omega⟩ ?_
  rintro i st h hi s32 ⟨s1, s3, s30, s31, b0, hall⟩
  by_cases hlt : i < n
  case neg =>
    have hr := hyes fun k hk => hall k (by omega)
    simp (disch := first | (simp only [go_sem, gb0, eq_self]; done) | omega | (simp only [gl1, gl2]; omega)) only [go_sem, ↓reduceIte, Nat.reduceEqDiff, Nat.reduceAdd, Nat.reduceMul, Nat.reduceSub, Int.reduceToNat, Nat.reduceBEq, s1, s3, s30, s31, s32, hlt, hr]
  have hi1 : i < nx.length := by omega
  have hi1' : (i : Int) < nx.length := by omega
  have hip : i < pay.length := by omega
  have hip' : (i : Int) < pay.length := by omega
  have hic : i < cost.length := by omega
  have hic' : (i : Int) < cost.length := by omega
  have hnoi := hno i hlt
  have hrl := hk.row _ (nth_mem hi1)
  obtain ⟨r, hr⟩ : ∃ r, r = nth nx i := ⟨_, rfl⟩
  have hrr : nth nx i = r := hr.symm
  rw [hrr] at hrl
  have hst : stB nx pay cost i = (decide (r.length = n) && (inB (nth pay i) 0 1000 && (inB (nth cost i) 0 100 && rowB r))) := by rw [stB, hrr, hn]
  by_cases d1 : r.length = n
  case neg =>
    have hb := hnoi (by rw [hst, decide_eq_false d1]; rfl)
    have d1' : ¬ (r.length : Int) = n := by omega
    simp (disch := first | (simp only [go_sem, gb0, eq_self]; done) | omega | (simp only [gl1, gl2]; omega)) only [go_sem, ↓reduceIte, Nat.reduceEqDiff, Nat.reduceAdd, Nat.reduceMul, Nat.reduceSub, Int.reduceToNat, Nat.reduceBEq, s1, s3, s30, s31, s32, hlt, hi1, hi1', hrr, d1, d1', hb]
  have d1' : (r.length : Int) = n := by omega
  cases d2 : inB (nth pay i) 0 1000 with
  | false =>
    have hb := hnoi (by rw [hst, d2]; simp)
    simp (disch := first | (simp only [go_sem, gb0, eq_self]; done) | omega | (simp only [gl1, gl2]; omega)) only [go_sem, ↓reduceIte, Nat.reduceEqDiff, Nat.reduceAdd, Nat.reduceMul, Nat.reduceSub, Int.reduceToNat, Nat.reduceBEq, s1, s3, s30, s31, s32, hlt, hi1, hi1', hip, hip', hrr, d1, d1', d2, b0, hb, eq_self, decide_true, Bool.not_true, List.drop_succ_cons]
  | true =>
  cases d3 : inB (nth cost i) 0 100 with
  | false =>
    have hb := hnoi (by rw [hst, d3]; simp)
    simp (disch := first | (simp only [go_sem, gb0, eq_self]; done) | omega | (simp only [gl1, gl2]; omega)) only [go_sem, ↓reduceIte, Nat.reduceEqDiff, Nat.reduceAdd, Nat.reduceMul, Nat.reduceSub, Int.reduceToNat, Nat.reduceBEq, s1, s3, s30, s31, s32, hlt, hi1, hi1', hip, hip', hic, hic', hrr, d1, d1', d2, d3, b0, hb, eq_self, decide_true, Bool.not_true, List.drop_succ_cons]
  | true =>
  have hst2 : stB nx pay cost i = rowB r := by rw [hst, decide_eq_true d1, d2, d3]; rfl
  simp (disch := first | (simp only [go_sem, gb0, eq_self]; done) | omega | (simp only [gl1, gl2]; omega)) only [go_sem, ↓reduceIte, Nat.reduceEqDiff, Nat.reduceAdd, Nat.reduceMul, Nat.reduceSub, Int.reduceToNat, Nat.reduceBEq, s1, s3, s30, s31, s32, hlt, hi1, hi1', hip, hip', hic, hic', hrr, d1, d1', d2, d3, b0, eq_self, decide_true, Bool.not_true, List.drop_succ_cons]
  refine WP_cut (fun st h => st 1 = .ptr 0 0 ∧ st 3 = I n ∧ st 30 = LLI nx ∧ st 31 = I n ∧ st 32 = I i ∧ st 6 = I (sumN (fun j => nth r j) n) ∧ h.bl 0 = some (.cells false false [LLI nx, LI pay, LI cost]) ∧ ∀ k, k < n → inB (nth r k) 0 4 = true) ?_ ?_
  · refine WP_for 61 n (fun j st h => st 1 = .ptr 0 0 ∧ st 3 = I n ∧ st 30 = LLI nx ∧ st 31 = I n ∧ st 32 = I i ∧ st 59 = LI r ∧ st 60 = I n ∧ st 6 = I (sumN (fun j => nth r j) j) ∧ h.bl 0 = some (.cells false false [LLI nx, LI pay, LI cost]) ∧ ∀ k, k < j → inB (nth r k) 0 4 = true) (by simp (disch := first | (simp only [go_sem, gb0, eq_self]; done) | omega | (simp only [gl1, gl2]; omega)) only [go_sem, ↓reduceIte, Nat.reduceEqDiff, Nat.reduceAdd, Nat.reduceMul, Nat.reduceSub, Int.reduceToNat, Nat.reduceBEq])
      ⟨by simp (disch := first | (simp only [go_sem, gb0, eq_self]; done) | omega | (simp only [gl1, gl2]; omega)) only [go_sem, ↓reduceIte, Nat.reduceEqDiff, Nat.reduceAdd, Nat.reduceMul, Nat.reduceSub, Int.reduceToNat, Nat.reduceBEq, s1], by simp (disch := first | (simp only [go_sem, gb0, eq_self]; done) | omega | (simp only [gl1, gl2]; omega)) only [go_sem, ↓reduceIte, Nat.reduceEqDiff, Nat.reduceAdd, Nat.reduceMul, Nat.reduceSub, Int.reduceToNat, Nat.reduceBEq, s3], by simp (disch := first | (simp only [go_sem, gb0, eq_self]; done) | omega | (simp only [gl1, gl2]; omega)) only [go_sem, ↓reduceIte, Nat.reduceEqDiff, Nat.reduceAdd, Nat.reduceMul, Nat.reduceSub, Int.reduceToNat, Nat.reduceBEq, s30], by simp (disch := first | (simp only [go_sem, gb0, eq_self]; done) | omega | (simp only [gl1, gl2]; omega)) only [go_sem, ↓reduceIte, Nat.reduceEqDiff, Nat.reduceAdd, Nat.reduceMul, Nat.reduceSub, Int.reduceToNat, Nat.reduceBEq, s31], by simp (disch := first | (simp only [go_sem, gb0, eq_self]; done) | omega | (simp only [gl1, gl2]; omega)) only [go_sem, ↓reduceIte, Nat.reduceEqDiff, Nat.reduceAdd, Nat.reduceMul, Nat.reduceSub, Int.reduceToNat, Nat.reduceBEq, s32], by simp (disch := first | (simp only [go_sem, gb0, eq_self]; done) | omega | (simp only [gl1, gl2]; omega)) only [go_sem, ↓reduceIte, Nat.reduceEqDiff, Nat.reduceAdd, Nat.reduceMul, Nat.reduceSub, Int.reduceToNat, Nat.reduceBEq], by simp (disch := first | (simp only [go_sem, gb0, eq_self]; done) | omega | (simp only [gl1, gl2]; omega)) only [go_sem, ↓reduceIte, Nat.reduceEqDiff, Nat.reduceAdd, Nat.reduceMul, Nat.reduceSub, Int.reduceToNat, Nat.reduceBEq, d1], by simp (disch := first | (simp only [go_sem, gb0, eq_self]; done) | omega | (simp only [gl1, gl2]; omega)) only [go_sem, ↓reduceIte, Nat.reduceEqDiff, Nat.reduceAdd, Nat.reduceMul, Nat.reduceSub, Int.reduceToNat, Nat.reduceBEq]; rfl, by simp (disch := first | (simp only [go_sem, gb0, eq_self]; done) | omega | (simp only [gl1, gl2]; omega)) only [go_sem, ↓reduceIte, Nat.reduceEqDiff, Nat.reduceAdd, Nat.reduceMul, Nat.reduceSub, Int.reduceToNat, Nat.reduceBEq, b0], by omega⟩ ?_
    rintro j st h hj s61 ⟨s1, s3, s30, s31, s32, s59, s60, s6, b0, hpj⟩
    by_cases hjn : j < n
    case neg =>
      have hje : j = n := by omega
      subst hje
      simp (disch := first | (simp only [go_sem, gb0, eq_self]; done) | omega | (simp only [gl1, gl2]; omega)) only [go_sem, ↓reduceIte, Nat.reduceEqDiff, Nat.reduceAdd, Nat.reduceMul, Nat.reduceSub, Int.reduceToNat, Nat.reduceBEq, s1, s3, s30, s31, s32, s59, s60, s61, s6, hjn]
      exact ⟨b0, hpj⟩
    have hjr : j < r.length := by omega
    have hjr' : (j : Int) < r.length := by omega
    cases d4 : inB (nth r j) 0 4 with
    | false =>
      have hb := hnoi (by rw [hst2, rowB, notR hjr (by rw [d4]), Bool.false_and])
      simp (disch := first | (simp only [go_sem, gb0, eq_self]; done) | omega | (simp only [gl1, gl2]; omega)) only [go_sem, ↓reduceIte, Nat.reduceEqDiff, Nat.reduceAdd, Nat.reduceMul, Nat.reduceSub, Int.reduceToNat, Nat.reduceBEq, s1, s3, s30, s31, s32, s59, s60, s61, s6, hjn, hjr, hjr', d4, hb]
    | true =>
      have hsb := sum4 hpj
      have d4' := d4
      simp only [inB, Bool.and_eq_true, decide_eq_true_eq] at d4'
      have hs1 : sumN (fun k => nth r k) (j + 1) = sumN (fun k => nth r k) j + nth r j := rfl
      simp (disch := first | (simp only [go_sem, gb0, eq_self]; done) | omega | (simp only [gl1, gl2]; omega)) only [go_sem, ↓reduceIte, Nat.reduceEqDiff, Nat.reduceAdd, Nat.reduceMul, Nat.reduceSub, Int.reduceToNat, Nat.reduceBEq, s1, s3, s30, s31, s32, s59, s60, s61, s6, hjn, hjr, hjr', d4]
      rw [ForK_normal]
      refine ⟨hjn, by simp (disch := first | (simp only [go_sem, gb0, eq_self]; done) | omega | (simp only [gl1, gl2]; omega)) only [go_sem, ↓reduceIte, Nat.reduceEqDiff, Nat.reduceAdd, Nat.reduceMul, Nat.reduceSub, Int.reduceToNat, Nat.reduceBEq, s61], by simp (disch := first | (simp only [go_sem, gb0, eq_self]; done) | omega | (simp only [gl1, gl2]; omega)) only [go_sem, ↓reduceIte, Nat.reduceEqDiff, Nat.reduceAdd, Nat.reduceMul, Nat.reduceSub, Int.reduceToNat, Nat.reduceBEq, s1], by simp (disch := first | (simp only [go_sem, gb0, eq_self]; done) | omega | (simp only [gl1, gl2]; omega)) only [go_sem, ↓reduceIte, Nat.reduceEqDiff, Nat.reduceAdd, Nat.reduceMul, Nat.reduceSub, Int.reduceToNat, Nat.reduceBEq, s3], by simp (disch := first | (simp only [go_sem, gb0, eq_self]; done) | omega | (simp only [gl1, gl2]; omega)) only [go_sem, ↓reduceIte, Nat.reduceEqDiff, Nat.reduceAdd, Nat.reduceMul, Nat.reduceSub, Int.reduceToNat, Nat.reduceBEq, s30], by simp (disch := first | (simp only [go_sem, gb0, eq_self]; done) | omega | (simp only [gl1, gl2]; omega)) only [go_sem, ↓reduceIte, Nat.reduceEqDiff, Nat.reduceAdd, Nat.reduceMul, Nat.reduceSub, Int.reduceToNat, Nat.reduceBEq, s31], by simp (disch := first | (simp only [go_sem, gb0, eq_self]; done) | omega | (simp only [gl1, gl2]; omega)) only [go_sem, ↓reduceIte, Nat.reduceEqDiff, Nat.reduceAdd, Nat.reduceMul, Nat.reduceSub, Int.reduceToNat, Nat.reduceBEq, s32], by simp (disch := first | (simp only [go_sem, gb0, eq_self]; done) | omega | (simp only [gl1, gl2]; omega)) only [go_sem, ↓reduceIte, Nat.reduceEqDiff, Nat.reduceAdd, Nat.reduceMul, Nat.reduceSub, Int.reduceToNat, Nat.reduceBEq, s59], by simp (disch := first | (simp only [go_sem, gb0, eq_self]; done) | omega | (simp only [gl1, gl2]; omega)) only [go_sem, ↓reduceIte, Nat.reduceEqDiff, Nat.reduceAdd, Nat.reduceMul, Nat.reduceSub, Int.reduceToNat, Nat.reduceBEq, s60], by (rw [hs1]; simp (disch := first | (simp only [go_sem, gb0, eq_self]; done) | omega | (simp only [gl1, gl2]; omega)) only [go_sem, ↓reduceIte, Nat.reduceEqDiff, Nat.reduceAdd, Nat.reduceMul, Nat.reduceSub, Int.reduceToNat, Nat.reduceBEq]), b0, fun k hk => ?_⟩
      by_cases hkj : k = j
      · subst hkj; exact d4
      · exact hpj k (by omega)
  · rintro st h ⟨s1, s3, s30, s31, s32, s6, b0, hpj⟩
    have hrb : rowB r = decide (sumN (fun j => nth r j) n ≤ 4) := by rw [rowB, d1, allR hpj, Bool.true_and]
    by_cases d5 : 4 < sumN (fun j => nth r j) n
    · have hb := hnoi (by rw [hst2, hrb]; exact decide_eq_false (by omega))
      simp (disch := first | (simp only [go_sem, gb0, eq_self]; done) | omega | (simp only [gl1, gl2]; omega)) only [go_sem, ↓reduceIte, Nat.reduceEqDiff, Nat.reduceAdd, Nat.reduceMul, Nat.reduceSub, Int.reduceToNat, Nat.reduceBEq, s1, s3, s30, s31, s32, s6, d5, hb]
    · simp (disch := first | (simp only [go_sem, gb0, eq_self]; done) | omega | (simp only [gl1, gl2]; omega)) only [go_sem, ↓reduceIte, Nat.reduceEqDiff, Nat.reduceAdd, Nat.reduceMul, Nat.reduceSub, Int.reduceToNat, Nat.reduceBEq, s1, s3, s30, s31, s32, s6, d5]
      rw [ForK_normal]
      refine ⟨hlt, by simp (disch := first | (simp only [go_sem, gb0, eq_self]; done) | omega | (simp only [gl1, gl2]; omega)) only [go_sem, ↓reduceIte, Nat.reduceEqDiff, Nat.reduceAdd, Nat.reduceMul, Nat.reduceSub, Int.reduceToNat, Nat.reduceBEq, s32], by simp (disch := first | (simp only [go_sem, gb0, eq_self]; done) | omega | (simp only [gl1, gl2]; omega)) only [go_sem, ↓reduceIte, Nat.reduceEqDiff, Nat.reduceAdd, Nat.reduceMul, Nat.reduceSub, Int.reduceToNat, Nat.reduceBEq, s1], by simp (disch := first | (simp only [go_sem, gb0, eq_self]; done) | omega | (simp only [gl1, gl2]; omega)) only [go_sem, ↓reduceIte, Nat.reduceEqDiff, Nat.reduceAdd, Nat.reduceMul, Nat.reduceSub, Int.reduceToNat, Nat.reduceBEq, s3], by simp (disch := first | (simp only [go_sem, gb0, eq_self]; done) | omega | (simp only [gl1, gl2]; omega)) only [go_sem, ↓reduceIte, Nat.reduceEqDiff, Nat.reduceAdd, Nat.reduceMul, Nat.reduceSub, Int.reduceToNat, Nat.reduceBEq, s30], by simp (disch := first | (simp only [go_sem, gb0, eq_self]; done) | omega | (simp only [gl1, gl2]; omega)) only [go_sem, ↓reduceIte, Nat.reduceEqDiff, Nat.reduceAdd, Nat.reduceMul, Nat.reduceSub, Int.reduceToNat, Nat.reduceBEq, s31], b0, fun k hk => ?_⟩
      by_cases hki : k = i
      · subst hki; rw [hst2, hrb]; exact decide_eq_true (by omega)
      · exact hall k (by omega)
end Go.Proofs.Ytgamcclfdkpcgaa

set_option linter.unusedVariables false
set_option linter.unusedSimpArgs false
set_option maxRecDepth 10000
namespace Go.Proofs.Ytgamcclfdkpcgaa
open Go Go.Am

variable {h h' : Hp} {K : AV → Hp → Prop}

def hasB (l : List Int) (v : Int) : Bool := l.any fun x => decide (x = v)
theorem hasB_take (l : List Int) (v : Int) (j : Nat) (hj : j < l.length) : hasB (l.take (j + 1)) v = (hasB (l.take j) v || decide (nth l j = v)) := by
  have e : l.take (j + 1) = l.take j ++ [nth l j] := by rw [List.take_succ_eq_append_getElem hj, nth_getElem hj]
  rw [hasB, e, List.any_append]; simp [hasB]
theorem hasB_all (l : List Int) (v : Int) {j : Nat} (hj : l.length ≤ j) : hasB (l.take j) v = hasB l v := by rw [List.take_of_length_le hj]
theorem f57_con (l : List Int) (hl : l.length ≤ maxLen) (v : Int) : Con Try.prog cfg 57 [LI l, I v] (.bool (hasB l v)) := by
  have ml : maxLen = 9223372036854775807 := by decide
  refine Con_intro Try.func57 rfl ok57 (Nat.le_of_ble_eq_true rfl) rfl ?_
  simp only [Try.f57, Option.getD_some, initSt2]
  simp (disch := first | (simp only [go_sem, gb0, eq_self]; done) | omega | (simp only [gl1, gl2]; omega)) only [go_sem, ↓reduceIte, Nat.reduceEqDiff, Nat.reduceAdd, Nat.reduceMul, Nat.reduceSub, Int.reduceToNat, Nat.reduceBEq]
  refine WP_for 5 l.length (fun j st h => st 0 = LI l ∧ st 1 = I v ∧ hasB (l.take j) v = false) (by simp (disch := first | (simp only [go_sem, gb0, eq_self]; done) | omega | (simp only [gl1, gl2]; omega)) only [go_sem, ↓reduceIte, Nat.reduceEqDiff, Nat.reduceAdd, Nat.reduceMul, Nat.reduceSub, Int.reduceToNat, Nat.reduceBEq]) ⟨by simp (disch := first | (simp only [go_sem, gb0, eq_self]; done) | omega | (simp only [gl1, gl2]; omega)) only [go_sem, ↓reduceIte, Nat.reduceEqDiff, Nat.reduceAdd, Nat.reduceMul, Nat.reduceSub, Int.reduceToNat, Nat.reduceBEq], by simp (disch := first | (simp only [go_sem, gb0, eq_self]; done) | omega | (simp only [gl1, gl2]; omega)) only [go_sem, ↓reduceIte, Nat.reduceEqDiff, Nat.reduceAdd, Nat.reduceMul, Nat.reduceSub, Int.reduceToNat, Nat.reduceBEq], rfl⟩ ?_
  rintro j st h hj s5 ⟨s0, s1, hb⟩
  by_cases hlt : j < l.length
  case neg =>
    rw [hasB_all l v (by omega)] at hb
    simp (disch := first | (simp only [go_sem, gb0, eq_self]; done) | omega | (simp only [gl1, gl2]; omega)) only [go_sem, ↓reduceIte, Nat.reduceEqDiff, Nat.reduceAdd, Nat.reduceMul, Nat.reduceSub, Int.reduceToNat, Nat.reduceBEq, s0, s1, s5, hlt, hb]
  have hst := hasB_take l v j hlt
  rw [hb, Bool.false_or] at hst
  by_cases hc : nth l j = v
  · have hr : hasB l v = true := by
      rw [hasB, List.any_eq_true]; exact ⟨nth l j, nth_mem hlt, by simp [hc]⟩
    simp (disch := first | (simp only [go_sem, gb0, eq_self]; done) | omega | (simp only [gl1, gl2]; omega)) only [go_sem, ↓reduceIte, Nat.reduceEqDiff, Nat.reduceAdd, Nat.reduceMul, Nat.reduceSub, Int.reduceToNat, Nat.reduceBEq, s0, s1, s5, hlt, hc, hr, eq_self, decide_true]
  · simp (disch := first | (simp only [go_sem, gb0, eq_self]; done) | omega | (simp only [gl1, gl2]; omega)) only [go_sem, ↓reduceIte, Nat.reduceEqDiff, Nat.reduceAdd, Nat.reduceMul, Nat.reduceSub, Int.reduceToNat, Nat.reduceBEq, s0, s1, s5, hlt, hc]
    rw [ForK_normal]
    exact ⟨hlt, by simp (disch := first | (simp only [go_sem, gb0, eq_self]; done) | omega | (simp only [gl1, gl2]; omega)) only [go_sem, ↓reduceIte, Nat.reduceEqDiff, Nat.reduceAdd, Nat.reduceMul, Nat.reduceSub, Int.reduceToNat, Nat.reduceBEq, s5], by simp (disch := first | (simp only [go_sem, gb0, eq_self]; done) | omega | (simp only [gl1, gl2]; omega)) only [go_sem, ↓reduceIte, Nat.reduceEqDiff, Nat.reduceAdd, Nat.reduceMul, Nat.reduceSub, Int.reduceToNat, Nat.reduceBEq, s0], by simp (disch := first | (simp only [go_sem, gb0, eq_self]; done) | omega | (simp only [gl1, gl2]; omega)) only [go_sem, ↓reduceIte, Nat.reduceEqDiff, Nat.reduceAdd, Nat.reduceMul, Nat.reduceSub, Int.reduceToNat, Nat.reduceBEq, s1], by rw [hst]; exact decide_eq_false hc⟩

/-- Is the i-th number of a list where it may stand? -/
def posB (n : Nat) (l : List Int) (i : Nat) : Bool := (decide (0 ≤ nth l i) && decide (nth l i < n)) && (decide (i = 0) || decide (nth l (i - 1) < nth l i))
def ruleOK (n : Nat) (l : List Int) : Bool := (List.range l.length).all (posB n l)
/-- The number of a rule that is given as a list. -/
noncomputable def xOf (n : Nat) (l : List Int) : Nat := Classical.choose (bits_ex (fun k => hasB l k) n)
theorem xOf_bit {n : Nat} (l : List Int) {i : Nat} (hi : i < n) : ruleB (xOf n l) i = hasB l i := (Classical.choose_spec (bits_ex (fun k => hasB l k) n)).2 i hi
theorem bolA_congr {L L' : Nat → Bool} (h : ∀ k, k < 6 → L k = L' k) : bolA L = bolA L' := by
  refine List.map_congr_left fun k hk => ?_
  rw [h k (List.mem_range.1 hk)]
theorem has_out {n : Nat} {l : List Int} (h : ruleOK n l = true) {k : Nat} (hk : n ≤ k) : hasB l k = false := by
  rw [hasB, List.any_eq_false]
  intro x hx
  obtain ⟨i, hi, rfl⟩ := List.getElem_of_mem hx
  have := ofR h hi
  simp only [posB, Bool.and_eq_true, decide_eq_true_eq] at this
  rw [nth_getElem hi] at this
  simp; omega
open Classical in
noncomputable def rulR (nx : List (List Int)) (pay cost l : List Int) : AV :=
  if chB nx pay cost && ruleOK nx.length l then (if sndB nx.length (wF nx) (xOf nx.length l) then .tup [LP (valL nx pay cost (xOf nx.length l)), I 0] else .tup [LP [], I 6]) else .tup [LP [], I 2]
theorem f29_con (nx : List (List Int)) (pay cost l : List Int) (hk : okN nx pay cost) (hl : l.length ≤ maxLen) : Con Try.prog cfg 29 [chA nx pay cost, LI l] (rulR nx pay cost l) := by
  have ml : maxLen = 9223372036854775807 := by decide
  have hal : ∀ g : Hp, allocB g (some (chA nx pay cost)) = some (.ptr g.nx 0, g.alloc (.cells false false [LLI nx, LI pay, LI cost])) := fun g => allocB_agg _ rfl
  have k48 := fun h h' K => ConW_num (h := h) (h' := h') (K := K) (f48_con nx pay cost hk) rfl
  have hse : ∀ h : Hp, sealA h (chA nx pay cost) = some (chA nx pay cost, h) := fun h => sealA_agg _ (by simp only [AV.pureL, pure_L, Bool.and_true])
  cases hc : chB nx pay cost with
  | false =>
    have hr : rulR nx pay cost l = .tup [LP [], I 2] := by rw [rulR, hc]; rfl
    rw [hr]
    refine Con_intro Try.func29 rfl ok29 (Nat.le_of_ble_eq_true rfl) rfl ?_
    simp only [Try.f29, Option.getD_some, initSt2]
    simp (disch := first | (simp only [go_sem, gb0, eq_self]; done) | omega | (simp only [gl1, gl2]; omega)) only [go_sem, ↓reduceIte, Nat.reduceEqDiff, Nat.reduceAdd, Nat.reduceMul, Nat.reduceSub, Int.reduceToNat, Nat.reduceBEq, hal, k48, hse, hc]
    rfl
  | true =>
  have C := okC.of hc
  obtain ⟨n, hn⟩ : ∃ n, n = nx.length := ⟨_, rfl⟩
  have hn1 := C.n1
  have hn6 := C.n6
  have hz82 : [AV.bool false, .bool false, .bool false, .bool false, .bool false, .bool false] = bolA fun _ => false := rfl
  obtain ⟨res, hres⟩ : ∃ res, res = rulR nx pay cost l := ⟨_, rfl⟩
  have hno : ∀ i, i < l.length → posB n l i = false → res = .tup [LP [], I 2] := fun i hi h => by
    rw [hres, rulR, ← hn, ruleOK, notR hi h, Bool.and_false]; rfl
  rw [← hres]
  refine Con_intro Try.func29 rfl ok29 (Nat.le_of_ble_eq_true rfl) rfl ?_
  simp only [Try.f29, Option.getD_some, initSt2]
  simp (disch := first | (simp only [go_sem, gb0, eq_self]; done) | omega | (simp only [gl1, gl2]; omega)) only [go_sem, ↓reduceIte, Nat.reduceEqDiff, Nat.reduceAdd, Nat.reduceMul, Nat.reduceSub, Int.reduceToNat, Nat.reduceBEq, hal, k48, hse, hc]
  refine WP_cut (fun st h => st 2 = .ptr 0 0 ∧ st 6 = .ptr 1 0 ∧ 2 ≤ h.nx ∧ h.bl 0 = some (.cells false false [LLI nx, LI pay, LI cost]) ∧ h.bl 1 = some (.cells false false (bolA fun k => hasB l k)) ∧ ruleOK n l = true) ?_ ?_
  · refine WP_for 14 l.length (fun i st h => st 1 = LI l ∧ st 2 = .ptr 0 0 ∧ st 6 = .ptr 1 0 ∧ st 12 = LI l ∧ st 13 = I l.length ∧ 2 ≤ h.nx ∧ h.bl 0 = some (.cells false false [LLI nx, LI pay, LI cost]) ∧ h.bl 1 = some (.cells false false (bolA fun k => hasB (l.take i) k)) ∧ ∀ k, k < i → posB n l k = true) (by simp (disch := first | (simp only [go_sem, gb0, eq_self]; done) | omega | (simp only [gl1, gl2]; omega)) only [go_sem, ↓reduceIte, Nat.reduceEqDiff, Nat.reduceAdd, Nat.reduceMul, Nat.reduceSub, Int.reduceToNat, Nat.reduceBEq])
      ⟨by simp (disch := first | (simp only [go_sem, gb0, eq_self]; done) | omega | (simp only [gl1, gl2]; omega)) only [go_sem, ↓reduceIte, Nat.reduceEqDiff, Nat.reduceAdd, Nat.reduceMul, Nat.reduceSub, Int.reduceToNat, Nat.reduceBEq], by simp (disch := first | (simp only [go_sem, gb0, eq_self]; done) | omega | (simp only [gl1, gl2]; omega)) only [go_sem, ↓reduceIte, Nat.reduceEqDiff, Nat.reduceAdd, Nat.reduceMul, Nat.reduceSub, Int.reduceToNat, Nat.reduceBEq], by simp (disch := first | (simp only [go_sem, gb0, eq_self]; done) | omega | (simp only [gl1, gl2]; omega)) only [go_sem, ↓reduceIte, Nat.reduceEqDiff, Nat.reduceAdd, Nat.reduceMul, Nat.reduceSub, Int.reduceToNat, Nat.reduceBEq], by simp (disch := first | (simp only [go_sem, gb0, eq_self]; done) | omega | (simp only [gl1, gl2]; omega)) only [go_sem, ↓reduceIte, Nat.reduceEqDiff, Nat.reduceAdd, Nat.reduceMul, Nat.reduceSub, Int.reduceToNat, Nat.reduceBEq], by simp (disch := first | (simp only [go_sem, gb0, eq_self]; done) | omega | (simp only [gl1, gl2]; omega)) only [go_sem, ↓reduceIte, Nat.reduceEqDiff, Nat.reduceAdd, Nat.reduceMul, Nat.reduceSub, Int.reduceToNat, Nat.reduceBEq], by simp (disch := first | (simp only [go_sem, gb0, eq_self]; done) | omega | (simp only [gl1, gl2]; omega)) only [go_sem, ↓reduceIte, Nat.reduceEqDiff, Nat.reduceAdd, Nat.reduceMul, Nat.reduceSub, Int.reduceToNat, Nat.reduceBEq]; decide, by simp (disch := first | (simp only [go_sem, gb0, eq_self]; done) | omega | (simp only [gl1, gl2]; omega)) only [go_sem, ↓reduceIte, Nat.reduceEqDiff, Nat.reduceAdd, Nat.reduceMul, Nat.reduceSub, Int.reduceToNat, Nat.reduceBEq], by simp (disch := first | (simp only [go_sem, gb0, eq_self]; done) | omega | (simp only [gl1, gl2]; omega)) only [go_sem, ↓reduceIte, Nat.reduceEqDiff, Nat.reduceAdd, Nat.reduceMul, Nat.reduceSub, Int.reduceToNat, Nat.reduceBEq, hz82]; rfl, by omega⟩ ?_
    rintro i st h hi s14 ⟨s1, s2, s6, s12, s13, hnx, b0, b1, hall⟩
    by_cases hlt : i < l.length
    case neg =>
      have hbb : (bolA fun k => hasB (l.take i) k) = bolA fun k => hasB l k := by congr 1; funext k; rw [hasB_all l k (by omega)]
      rw [hbb] at b1
      simp (disch := first | (simp only [go_sem, gb0, eq_self]; done) | omega | (simp only [gl1, gl2]; omega)) only [go_sem, ↓reduceIte, Nat.reduceEqDiff, Nat.reduceAdd, Nat.reduceMul, Nat.reduceSub, Int.reduceToNat, Nat.reduceBEq, s1, s2, s6, s12, s13, s14, hlt]
      exact ⟨hnx, b0, b1, allR fun k hk => hall k (by omega)⟩
    have hlt' : (i : Int) < l.length := by omega
    have hp : posB n l i = ((decide (0 ≤ nth l i) && decide (nth l i < n)) && (decide (i = 0) || decide (nth l (i - 1) < nth l i))) := rfl
    have hin : inB (nth l i) 0 ((nx.length : Int) - 1) = (decide (0 ≤ nth l i) && decide (nth l i < n)) := by
      rw [inB]; congr 1; exact decide_eq_decide.2 (by omega)
    cases c1 : inB (nth l i) 0 ((nx.length : Int) - 1) with
    | false =>
      have hr := hno i hlt (by rw [hp, ← hin, c1]; rfl)
      simp (disch := first | (simp only [go_sem, gb0, eq_self]; done) | omega | (simp only [gl1, gl2]; omega)) only [go_sem, ↓reduceIte, Nat.reduceEqDiff, Nat.reduceAdd, Nat.reduceMul, Nat.reduceSub, Int.reduceToNat, Nat.reduceBEq, s1, s2, s6, s12, s13, s14, hlt, b0, c1, hr]
      rfl
    | true =>
    have c1' := c1
    simp only [inB, Bool.and_eq_true, decide_eq_true_eq] at c1'
    obtain ⟨v, hv⟩ : ∃ v : Nat, (v : Int) = nth l i := ⟨(nth l i).toNat, by omega⟩
    have hv6 : v < 6 := by omega
    have hv6' : (v : Int) < 6 := by omega
    have hset : bolA (setB (fun k => hasB (l.take i) k) v true) = bolA fun k => hasB (l.take (i + 1)) k := by
      congr 1; funext k
      rw [hasB_take l k i hlt, setB]
      by_cases hkv : k = v
      · subst hkv; rw [if_pos rfl, ← hv]; simp
      · rw [if_neg hkv, ← hv, decide_eq_false (by omega), Bool.or_false]
    rw [← hv] at c1
    by_cases c3 : 0 < i
    · have c3' : (0 : Int) < i := by omega
      have c4 : (0 : Int) ≤ (i : Int) - 1 := by omega
      have c5 : (i : Int) - 1 < l.length := by omega
      have c6 : ((i : Int) - 1).toNat = i - 1 := by omega
      have c7 : i - 1 < l.length := by omega
      by_cases c8 : (v : Int) ≤ nth l (i - 1)
      · have hr := hno i hlt (by rw [hp, decide_eq_false (show ¬ i = 0 by omega), decide_eq_false (show ¬ nth l (i - 1) < nth l i by omega), Bool.or_false, Bool.and_false])
        simp (disch := first | (simp only [go_sem, gb0, eq_self]; done) | omega | (simp only [gl1, gl2]; omega)) only [go_sem, ↓reduceIte, Nat.reduceEqDiff, Nat.reduceAdd, Nat.reduceMul, Nat.reduceSub, Int.reduceToNat, Nat.reduceBEq, s1, s2, s6, s12, s13, s14, hlt, ← hv, b0, c1, c3', c4, c5, c6, c7, c8, hr]
        rfl
      · simp (disch := first | (simp only [go_sem, gb0, eq_self]; done) | omega | (simp only [gl1, gl2]; omega)) only [go_sem, ↓reduceIte, Nat.reduceEqDiff, Nat.reduceAdd, Nat.reduceMul, Nat.reduceSub, Int.reduceToNat, Nat.reduceBEq, s1, s2, s6, s12, s13, s14, hlt, ← hv, b0, b1, c1, c3', c4, c5, c6, c7, c8, hv6, hv6', hset]
        rw [ForK_normal]
        refine ⟨hlt, by simp (disch := first | (simp only [go_sem, gb0, eq_self]; done) | omega | (simp only [gl1, gl2]; omega)) only [go_sem, ↓reduceIte, Nat.reduceEqDiff, Nat.reduceAdd, Nat.reduceMul, Nat.reduceSub, Int.reduceToNat, Nat.reduceBEq, s14], by simp (disch := first | (simp only [go_sem, gb0, eq_self]; done) | omega | (simp only [gl1, gl2]; omega)) only [go_sem, ↓reduceIte, Nat.reduceEqDiff, Nat.reduceAdd, Nat.reduceMul, Nat.reduceSub, Int.reduceToNat, Nat.reduceBEq, s1], by simp (disch := first | (simp only [go_sem, gb0, eq_self]; done) | omega | (simp only [gl1, gl2]; omega)) only [go_sem, ↓reduceIte, Nat.reduceEqDiff, Nat.reduceAdd, Nat.reduceMul, Nat.reduceSub, Int.reduceToNat, Nat.reduceBEq, s2], by simp (disch := first | (simp only [go_sem, gb0, eq_self]; done) | omega | (simp only [gl1, gl2]; omega)) only [go_sem, ↓reduceIte, Nat.reduceEqDiff, Nat.reduceAdd, Nat.reduceMul, Nat.reduceSub, Int.reduceToNat, Nat.reduceBEq, s6], by simp (disch := first | (simp only [go_sem, gb0, eq_self]; done) | omega | (simp only [gl1, gl2]; omega)) only [go_sem, ↓reduceIte, Nat.reduceEqDiff, Nat.reduceAdd, Nat.reduceMul, Nat.reduceSub, Int.reduceToNat, Nat.reduceBEq, s12], by simp (disch := first | (simp only [go_sem, gb0, eq_self]; done) | omega | (simp only [gl1, gl2]; omega)) only [go_sem, ↓reduceIte, Nat.reduceEqDiff, Nat.reduceAdd, Nat.reduceMul, Nat.reduceSub, Int.reduceToNat, Nat.reduceBEq, s13], hnx, by simp (disch := first | (simp only [go_sem, gb0, eq_self]; done) | omega | (simp only [gl1, gl2]; omega)) only [go_sem, ↓reduceIte, Nat.reduceEqDiff, Nat.reduceAdd, Nat.reduceMul, Nat.reduceSub, Int.reduceToNat, Nat.reduceBEq, b0], by simp (disch := first | (simp only [go_sem, gb0, eq_self]; done) | omega | (simp only [gl1, gl2]; omega)) only [go_sem, ↓reduceIte, Nat.reduceEqDiff, Nat.reduceAdd, Nat.reduceMul, Nat.reduceSub, Int.reduceToNat, Nat.reduceBEq], fun k hk => ?_⟩
        by_cases hki : k = i
        · subst hki
          rw [hp, decide_eq_true (show 0 ≤ nth l k by omega), decide_eq_true (show nth l k < n by omega), decide_eq_true (show nth l (k - 1) < nth l k by omega), Bool.or_true]; rfl
        · exact hall k (by omega)
    · obtain rfl : i = 0 := by omega
      have c3' : ¬ ((0 : Int) < ((0 : Nat) : Int)) := by decide
      simp (disch := first | (simp only [go_sem, gb0, eq_self]; done) | omega | (simp only [gl1, gl2]; omega)) only [go_sem, ↓reduceIte, Nat.reduceEqDiff, Nat.reduceAdd, Nat.reduceMul, Nat.reduceSub, Int.reduceToNat, Nat.reduceBEq, s1, s2, s6, s12, s13, s14, hlt, ← hv, b0, b1, c1, c3', hv6, hv6', hset]
      rw [ForK_normal]
      refine ⟨hlt, by simp (disch := first | (simp only [go_sem, gb0, eq_self]; done) | omega | (simp only [gl1, gl2]; omega)) only [go_sem, ↓reduceIte, Nat.reduceEqDiff, Nat.reduceAdd, Nat.reduceMul, Nat.reduceSub, Int.reduceToNat, Nat.reduceBEq, s14], by simp (disch := first | (simp only [go_sem, gb0, eq_self]; done) | omega | (simp only [gl1, gl2]; omega)) only [go_sem, ↓reduceIte, Nat.reduceEqDiff, Nat.reduceAdd, Nat.reduceMul, Nat.reduceSub, Int.reduceToNat, Nat.reduceBEq, s1], by simp (disch := first | (simp only [go_sem, gb0, eq_self]; done) | omega | (simp only [gl1, gl2]; omega)) only [go_sem, ↓reduceIte, Nat.reduceEqDiff, Nat.reduceAdd, Nat.reduceMul, Nat.reduceSub, Int.reduceToNat, Nat.reduceBEq, s2], by simp (disch := first | (simp only [go_sem, gb0, eq_self]; done) | omega | (simp only [gl1, gl2]; omega)) only [go_sem, ↓reduceIte, Nat.reduceEqDiff, Nat.reduceAdd, Nat.reduceMul, Nat.reduceSub, Int.reduceToNat, Nat.reduceBEq, s6], by simp (disch := first | (simp only [go_sem, gb0, eq_self]; done) | omega | (simp only [gl1, gl2]; omega)) only [go_sem, ↓reduceIte, Nat.reduceEqDiff, Nat.reduceAdd, Nat.reduceMul, Nat.reduceSub, Int.reduceToNat, Nat.reduceBEq, s12], by simp (disch := first | (simp only [go_sem, gb0, eq_self]; done) | omega | (simp only [gl1, gl2]; omega)) only [go_sem, ↓reduceIte, Nat.reduceEqDiff, Nat.reduceAdd, Nat.reduceMul, Nat.reduceSub, Int.reduceToNat, Nat.reduceBEq, s13], hnx, by simp (disch := first | (simp only [go_sem, gb0, eq_self]; done) | omega | (simp only [gl1, gl2]; omega)) only [go_sem, ↓reduceIte, Nat.reduceEqDiff, Nat.reduceAdd, Nat.reduceMul, Nat.reduceSub, Int.reduceToNat, Nat.reduceBEq, b0], by simp (disch := first | (simp only [go_sem, gb0, eq_self]; done) | omega | (simp only [gl1, gl2]; omega)) only [go_sem, ↓reduceIte, Nat.reduceEqDiff, Nat.reduceAdd, Nat.reduceMul, Nat.reduceSub, Int.reduceToNat, Nat.reduceBEq], fun k hk => ?_⟩
      obtain rfl : k = 0 := by omega
      rw [hp, decide_eq_true (show 0 ≤ nth l 0 by omega), decide_eq_true (show nth l 0 < n by omega)]; rfl
  · rintro st h ⟨s2, s6, hnx, b0, b1, hok⟩
    have hu : uR nx.length (xOf nx.length l) = .agg (bolA fun k => hasB l k) := by
      rw [uR, uR_bol]
      congr 1
      refine bolA_congr fun k hk => ?_
      by_cases hkn : k < nx.length
      · rw [if_pos hkn, xOf_bit l hkn]
      · rw [if_neg hkn, has_out hok (by omega)]
    have k54 := fun h h' K => ConW_num (h := h) (h' := h') (K := K) (f54_con C (xOf nx.length l)) rfl
    have c56 := f56_con C (xOf nx.length l)
    rw [hu] at k54 c56
    have hld : loadC (some (.array 6 4)) (some 6) (some (bolA fun k => hasB l k, 0)) = some (.agg (bolA fun k => hasB l k)) := by
      have := loadC_agg (.array 6 4) 6 rfl (bolA fun k => hasB l k) 0 (by rw [bolA_len]; omega)
      rw [this, List.drop_zero, List.take_of_length_le (by rw [bolA_len]; omega)]
    have hse2 : ∀ h : Hp, sealA h (.agg (bolA fun k => hasB l k)) = some (.agg (bolA fun k => hasB l k), h) := fun h => sealA_agg _ (pureL_all fun y hy => by obtain ⟨k, _, rfl⟩ := List.mem_map.1 hy; rfl)
    have z0 : 0 < h.nx := by omega
    have z1 : 1 < h.nx := by omega
    cases hsd : sndB nx.length (wF nx) (xOf nx.length l) with
    | false =>
      have hr : res = .tup [LP [], I 6] := by rw [hres, rulR, hc, ← hn, hok, hn, hsd]; rfl
      simp (disch := first | (simp only [go_sem, gb0, eq_self]; done) | omega | (simp only [gl1, gl2]; omega)) only [go_sem, ↓reduceIte, Nat.reduceEqDiff, Nat.reduceAdd, Nat.reduceMul, Nat.reduceSub, Int.reduceToNat, Nat.reduceBEq, s2, s6, b0, b1, hld, hse, hse2, k54, hsd, hr]
      rfl
    | true =>
      have hr : res = .tup [LP (valL nx pay cost (xOf nx.length l)), I 0] := by rw [hres, rulR, hc, ← hn, hok, hn, hsd]; rfl
      have k56 := fun h h' K => ConW_num (h := h) (h' := h') (K := K) c56 (by rw [eqR]; exact List.all_eq_true.2 fun y hy => by obtain ⟨k, _, rfl⟩ := List.mem_map.1 hy; rfl)
      have k55 := fun h h' K => ConW_any (h := h) (h' := h') (K := K) (f55_con C (xOf nx.length l) (sndB_iff.1 hsd)) rfl
      have hi56 : ∀ h : Hp, importR h (eqR nx pay cost (xOf nx.length l)) = (eqR nx pay cost (xOf nx.length l), h) := fun _ => rfl
      have hse3 : ∀ h : Hp, sealA h (eqR nx pay cost (xOf nx.length l)) = some (eqR nx pay cost (xOf nx.length l), h) := fun h => sealA_agg _ (matA_pure _)
      have hi55 : ∀ (h : Hp) (l : List (Int × Int)), importR h (LP l) = (LP l, h) := fun _ _ => rfl
      simp (disch := first | (simp only [go_sem, gb0, eq_self]; done) | omega | (simp only [gl1, gl2]; omega)) only [go_sem, ↓reduceIte, Nat.reduceEqDiff, Nat.reduceAdd, Nat.reduceMul, Nat.reduceSub, Int.reduceToNat, Nat.reduceBEq, s2, s6, b0, b1, z0, z1, hld, hse, hse2, k54, hsd, k56, hi56, hse3, k55, hi55, hr]
end Go.Proofs.Ytgamcclfdkpcgaa

set_option linter.unusedVariables false
set_option linter.unusedSimpArgs false
set_option maxRecDepth 10000
namespace Go.Proofs.Ytgamcclfdkpcgaa
open Go Go.Am

variable {h h' : Hp} {K : AV → Hp → Prop}

theorem vecA_flat (f : Nat → Int) (N : Nat) : vecA f N = ((List.range N).map f).flatMap (e1 I) := by
  rw [vecA]
  induction N with
  | zero => rfl
  | succ n ih => rw [List.range_succ, List.map_append, List.map_append, List.flatMap_append, ← ih]; rfl
theorem vecA_zero (N : Nat) : (List.replicate N (0 : Int)).flatMap (e1 I) = vecA (fun _ => 0) N := by
  rw [vecA_flat, List.map_const', List.length_range]
def setV (f : Nat → Int) (k : Nat) (v : Int) : Nat → Int := fun j => if j = k then v else f j
@[go_sem] theorem vecA_store (f : Nat → Int) (id N k : Nat) (row : Bool) (v : Int) (hk : k < N) : storeC h id k 1 (some (.cells false row (vecA f N))) [.int .i64 v] = some (.skp, h.put id (some (.cells false row (vecA (setV f k v) N)))) := by
  rw [storeC_one id _ row _ (I v) rfl (by rw [vecA_len]; omega)]
  congr 5
  refine List.ext_getElem? fun j => ?_
  rw [List.getElem?_set]
  by_cases hj : j < N
  · by_cases e : k = j
    · subst e
      rw [if_pos rfl, if_pos (by rw [vecA_len]; omega), vecA_get _ _ _ hj]
      simp [setV]
    · rw [if_neg e, vecA_get _ _ _ hj, vecA_get _ _ _ hj]
      simp [setV, Ne.symm e]
  · rw [if_neg (by omega), List.getElem?_eq_none (by rw [vecA_len]; omega), List.getElem?_eq_none (by rw [vecA_len]; omega)]
theorem vecA_congr {f g : Nat → Int} {N : Nat} (h : ∀ k, k < N → f k = g k) : vecA f N = vecA g N := by
  refine List.map_congr_left fun k hk => ?_
  rw [h k (List.mem_range.1 hk)]
theorem seal_vec {id N : Nat} {fz row : Bool} {f : Nat → Int} (hb : h.bl id = some (.cells fz row (vecA f N))) : sealA h (.sl id 0 N 1) = some (LI ((List.range N).map f), h.put id (some (.cells true row (vecA f N)))) := by
  rw [vecA_flat] at hb ⊢
  rw [sealA_sl, hb]
  exact sealSl_own (f := e1 I) (sz := 1) (h := h) id N fz row ((List.range N).map f) (by simp)

/-- A list that is being built in blocks from b on. -/
def OwnGe {α : Type} (b : Nat) (f : α → List AV) (sz : Nat) (h : Hp) (v : AV) (xs : List α) : Prop :=
  (v = .nil ∧ xs = []) ∨ ∃ id, b ≤ id ∧ v = .sl id 0 xs.length sz ∧ id < h.nx ∧ h.bl id = some (.cells false true (xs.flatMap f))
theorem OwnGe.own {α : Type} {b : Nat} {f : α → List AV} {sz : Nat} {v : AV} {xs : List α} (o : OwnGe b f sz h v xs) : Go.Am.Own f sz h v xs := by
  rcases o with o | ⟨id, _, o⟩
  · exact .inl o
  · exact .inr ⟨id, o⟩
theorem OwnGe.mono {α : Type} {b : Nat} {f : α → List AV} {sz : Nat} {v : AV} {xs : List α} (o : OwnGe b f sz h v xs) (hn : h.nx ≤ h'.nx) (hb : ∀ id, b ≤ id → id < h.nx → h'.bl id = h.bl id) : OwnGe b f sz h' v xs := by
  rcases o with o | ⟨id, h1, e, h2, h3⟩
  · exact .inl o
  · exact .inr ⟨id, h1, e, by omega, by rw [hb id h1 h2]; exact h3⟩
theorem OwnGe.low {α : Type} {b : Nat} {f : α → List AV} {sz : Nat} {v : AV} {xs : List α} (o : OwnGe b f sz h v xs) {flat : List AV} {i : Nat} (hi : i < b) (hib : i < h.nx) : (appH h v flat).bl i = h.bl i := by
  refine appH_bl _ _ _ _ hib fun id off n s e => ?_
  rcases o with ⟨rfl, _⟩ | ⟨id', h1, e', _⟩
  · cases e
  · rw [e'] at e; cases e; omega
theorem OwnGe.app {α : Type} {b : Nat} {f : α → List AV} {sz : Nat} {v : AV} (h : Hp) (hb : b ≤ h.nx) (xs : List α) : OwnGe b f sz (appH h v (xs.flatMap f)) (appV h xs.length sz) xs := by
  rcases Own.app (f := f) (sz := sz) h v xs with ⟨e, _⟩ | ⟨id, e, h1, h2⟩
  · cases e
  · refine .inr ⟨id, ?_, e, h1, h2⟩
    unfold appV at e; cases e; exact hb
theorem f34_con {nx : List (List Int)} {pay cost : List Int} (C : okC nx pay cost) (l : List Int) (hl : l.length ≤ maxLen) (hs : sndP nx.length (wF nx) (ruleB (xOf nx.length l))) :
    Con Try.prog cfg 34 [chA nx pay cost, LI l] (LP (valL nx pay cost (xOf nx.length l))) := by
  obtain ⟨n, hn⟩ : ∃ n, n = nx.length := ⟨_, rfl⟩
  have hn1 := C.n1
  have hn6 := C.n6
  have hlp := C.lp
  have hlc := C.lc
  have hal : ∀ g : Hp, allocB g (some (chA nx pay cost)) = some (.ptr g.nx 0, g.alloc (.cells false false [LLI nx, LI pay, LI cost])) := fun g => allocB_agg _ rfl
  obtain ⟨M, hM⟩ : ∃ M, M = eqM nx.length (wF nx) (pF pay) (pF cost) (ruleB (xOf nx.length l)) := ⟨_, rfl⟩
  have hmk : ∀ g : Hp, makeB Try.prog g (some (.slice 3)) (.int .i64 (n : Int)) (.int .i64 (n : Int)) = some (.sl g.nx 0 n 1, g.alloc (.cells false true (vecA (fun _ => 0) n))) := fun g => by
    have := makeB_int (P := Try.prog) (h := g) 3 (n : Int) isz3 ibytes3 izero3 (by omega) (by omega)
    rwa [Int.toNat_natCast, vecA_zero] at this
  have k57 := fun v h h' K => ConW_num (h := h) (h' := h') (K := K) (f57_con l hl v) rfl
  obtain ⟨R, hR⟩ : ∃ R : Nat → List Int, R = fun i => (List.range n).map fun j => M i j := ⟨_, rfl⟩
  have hbit : ∀ i, i < n → hasB l i = ruleB (xOf nx.length l) i := fun i hi => (xOf_bit l (by omega)).symm
  refine Con_intro Try.func34 rfl ok34 (Nat.le_of_ble_eq_true rfl) rfl ?_
  simp only [Try.f34, Option.getD_some, initSt2]
  simp (disch := first | (simp only [go_sem, gb0, eq_self]; done) | omega | (simp only [gl1, gl2]; omega)) only [go_sem, ↓reduceIte, Nat.reduceEqDiff, Nat.reduceAdd, Nat.reduceMul, Nat.reduceSub, Int.reduceToNat, Nat.reduceBEq, hal, ← hn, hmk]
  -- the rows and the right side
  refine WP_cut (fun st h => st 2 = .ptr 0 0 ∧ st 5 = I n ∧ st 7 = .sl 1 0 n 1 ∧ 2 ≤ h.nx ∧ h.bl 1 = some (.cells false true (vecA (fun i => M i n) n)) ∧ ∃ v, st 6 = v ∧ OwnGe 2 (e1 LI) 1 h v ((List.range n).map R)) ?_ ?_
  · refine WP_for 8 n (fun i st h => st 1 = LI l ∧ st 2 = .ptr 0 0 ∧ st 5 = I n ∧ st 7 = .sl 1 0 n 1 ∧ 2 ≤ h.nx ∧ h.bl 0 = some (.cells false false [LLI nx, LI pay, LI cost]) ∧ h.bl 1 = some (.cells false true (vecA (fun k => if k < i then M k n else 0) n)) ∧ ∃ v, st 6 = v ∧ OwnGe 2 (e1 LI) 1 h v ((List.range i).map R)) (by simp (disch := first | (simp only [go_sem, gb0, eq_self]; done) | omega | (simp only [gl1, gl2]; omega)) only [go_sem, ↓reduceIte, Nat.reduceEqDiff, Nat.reduceAdd, Nat.reduceMul, Nat.reduceSub, Int.reduceToNat, Nat.reduceBEq])
      ⟨by simp (disch := first | (simp only [go_sem, gb0, eq_self]; done) | omega | (simp only [gl1, gl2]; omega)) only [go_sem, ↓reduceIte, Nat.reduceEqDiff, Nat.reduceAdd, Nat.reduceMul, Nat.reduceSub, Int.reduceToNat, Nat.reduceBEq], by simp (disch := first | (simp only [go_sem, gb0, eq_self]; done) | omega | (simp only [gl1, gl2]; omega)) only [go_sem, ↓reduceIte, Nat.reduceEqDiff, Nat.reduceAdd, Nat.reduceMul, Nat.reduceSub, Int.reduceToNat, Nat.reduceBEq], by simp (disch := first | (simp only [go_sem, gb0, eq_self]; done) | omega | (simp only [gl1, gl2]; omega)) only [go_sem, ↓reduceIte, Nat.reduceEqDiff, Nat.reduceAdd, Nat.reduceMul, Nat.reduceSub, Int.reduceToNat, Nat.reduceBEq, hn], by simp (disch := first | (simp only [go_sem, gb0, eq_self]; done) | omega | (simp only [gl1, gl2]; omega)) only [go_sem, ↓reduceIte, Nat.reduceEqDiff, Nat.reduceAdd, Nat.reduceMul, Nat.reduceSub, Int.reduceToNat, Nat.reduceBEq], by simp (disch := first | (simp only [go_sem, gb0, eq_self]; done) | omega | (simp only [gl1, gl2]; omega)) only [go_sem, ↓reduceIte, Nat.reduceEqDiff, Nat.reduceAdd, Nat.reduceMul, Nat.reduceSub, Int.reduceToNat, Nat.reduceBEq]; decide, by simp (disch := first | (simp only [go_sem, gb0, eq_self]; done) | omega | (simp only [gl1, gl2]; omega)) only [go_sem, ↓reduceIte, Nat.reduceEqDiff, Nat.reduceAdd, Nat.reduceMul, Nat.reduceSub, Int.reduceToNat, Nat.reduceBEq], by simp (disch := first | (simp only [go_sem, gb0, eq_self]; done) | omega | (simp only [gl1, gl2]; omega)) only [go_sem, ↓reduceIte, Nat.reduceEqDiff, Nat.reduceAdd, Nat.reduceMul, Nat.reduceSub, Int.reduceToNat, Nat.reduceBEq]; rfl, .nil, by simp (disch := first | (simp only [go_sem, gb0, eq_self]; done) | omega | (simp only [gl1, gl2]; omega)) only [go_sem, ↓reduceIte, Nat.reduceEqDiff, Nat.reduceAdd, Nat.reduceMul, Nat.reduceSub, Int.reduceToNat, Nat.reduceBEq], .inl ⟨rfl, rfl⟩⟩ ?_
    rintro i st h hi s8 ⟨s1, s2, s5, s7, hnx, b0, b1, v, s6, ov⟩
    by_cases hlt : i < n
    case neg =>
      have hie : i = n := by omega
      subst hie
      have he : vecA (fun k => if k < i then M k i else 0) i = vecA (fun k => M k i) i := vecA_congr fun k hk => if_pos hk
      rw [he] at b1
      simp (disch := first | (simp only [go_sem, gb0, eq_self]; done) | omega | (simp only [gl1, gl2]; omega)) only [go_sem, ↓reduceIte, Nat.reduceEqDiff, Nat.reduceAdd, Nat.reduceMul, Nat.reduceSub, Int.reduceToNat, Nat.reduceBEq, s1, s2, s5, s6, s7, s8, hlt]
      exact ⟨hnx, b1, _, rfl, ov⟩
    have hi1 : i < nx.length := by omega
    have hi1' : (i : Int) < nx.length := by omega
    have hin' : (i : Int) < n := by omega
    have hip : i < pay.length := by omega
    have hip' : (i : Int) < pay.length := by omega
    have hic : i < cost.length := by omega
    have hic' : (i : Int) < cost.length := by omega
    have hpb := C.pb hi1
    have hcb := C.cb hi1
    have hrow := C.row i hi1
    have n1 : ¬ 1 = h.nx := by omega
    have n1' : ¬ h.nx = 1 := by omega
    have n0 : ¬ 0 = h.nx := by omega
    have n0' : ¬ h.nx = 0 := by omega
    obtain ⟨H, hH⟩ : ∃ H, H = h.nx := ⟨_, rfl⟩
    simp (disch := first | (simp only [go_sem, gb0, eq_self]; done) | omega | (simp only [gl1, gl2]; omega)) only [go_sem, ↓reduceIte, Nat.reduceEqDiff, Nat.reduceAdd, Nat.reduceMul, Nat.reduceSub, Int.reduceToNat, Nat.reduceBEq, s1, s2, s5, s6, s7, s8, hlt, hmk, k57, ← hH]
    refine condW_joinB (fun st g => st 1 = LI l ∧ st 2 = .ptr 0 0 ∧ st 5 = I n ∧ st 7 = .sl 1 0 n 1 ∧ st 8 = I i ∧ st 6 = v ∧ st 9 = .sl H 0 n 1 ∧ g.nx = H + 1 ∧ g.bl 0 = some (.cells false false [LLI nx, LI pay, LI cost]) ∧ g.bl 1 = some (.cells false true (vecA (fun k => if k < i + 1 then M k n else 0) n)) ∧ g.bl H = some (.cells false true (vecA (M i) n)) ∧ ∀ id, 2 ≤ id → id < H → g.bl id = h.bl id) ?_ ?_ ?_
    · intro hb
      have hr : ruleB (xOf nx.length l) i = true := by rw [← hbit i hlt]; exact hb
      have e1' : vecA (setV (fun _ => 0) i 1) n = vecA (M i) n := vecA_congr fun j hj => by
        rw [hM]; unfold setV eqM
        rw [hr, if_pos rfl, if_neg (show ¬ j = nx.length by omega)]
      have e2' : vecA (setV (fun k => if k < i then M k n else 0) i (nth pay i)) n = vecA (fun k => if k < i + 1 then M k n else 0) n := vecA_congr fun j hj => by
        unfold setV
        by_cases hji : j = i
        · subst hji; rw [if_pos rfl, if_pos (by omega), hM]; unfold eqM; rw [hr, if_pos rfl, if_pos hn]
        · have : (j < i) ↔ (j < i + 1) := by omega
          simp [hji, this]
      have n1H : ¬ 1 = H := by omega
      have n1H' : ¬ H = 1 := by omega
      have n0H : ¬ 0 = H := by omega
      simp (disch := first | (simp only [go_sem, gb0, eq_self]; done) | omega | (simp only [gl1, gl2]; omega)) only [go_sem, ↓reduceIte, Nat.reduceEqDiff, Nat.reduceAdd, Nat.reduceMul, Nat.reduceSub, Int.reduceToNat, Nat.reduceBEq, s1, s2, s5, s6, s7, s8, hlt, hin', hip, hip', b0, b1, ← hH, n1H, n1H', n0H, e1', e2', List.drop_succ_cons]
      refine fun id h2 h3 => ?_
      rw [if_neg (by omega), if_neg (by omega), if_neg (by omega)]
    · intro hb
      have hr : ruleB (xOf nx.length l) i = false := by rw [← hbit i hlt]; exact hb
      have n1H : ¬ 1 = H := by omega
      have n1H' : ¬ H = 1 := by omega
      have n0H : ¬ 0 = H := by omega
      have n0H' : ¬ H = 0 := by omega
      have hMi : ∀ j, j < n → M i j = (if j = i then 4 else 0) - nth (nth nx i) j := fun j hj => by
        rw [hM]; unfold eqM; rw [hr]; simp [show ¬ j = nx.length by omega]
      simp (disch := first | (simp only [go_sem, gb0, eq_self]; done) | omega | (simp only [gl1, gl2]; omega)) only [go_sem, ↓reduceIte, Nat.reduceEqDiff, Nat.reduceAdd, Nat.reduceMul, Nat.reduceSub, Int.reduceToNat, Nat.reduceBEq, s1, s2, s5, s6, s7, s8, hlt, b0, b1]
      refine WP_cut (fun st g => st 1 = LI l ∧ st 2 = .ptr 0 0 ∧ st 5 = I n ∧ st 7 = .sl 1 0 n 1 ∧ st 8 = I i ∧ st 6 = v ∧ st 9 = .sl H 0 n 1 ∧ g.nx = H + 1 ∧ g.bl 0 = some (.cells false false [LLI nx, LI pay, LI cost]) ∧ g.bl 1 = some (.cells false true (vecA (fun k => if k < i then M k n else 0) n)) ∧ g.bl H = some (.cells false true (vecA (fun k => - nth (nth nx i) k) n)) ∧ ∀ id, 2 ≤ id → id < H → g.bl id = h.bl id) ?_ ?_
      · refine WP_for 10 n (fun j st g => st 1 = LI l ∧ st 2 = .ptr 0 0 ∧ st 5 = I n ∧ st 7 = .sl 1 0 n 1 ∧ st 8 = I i ∧ st 6 = v ∧ st 9 = .sl H 0 n 1 ∧ g.nx = H + 1 ∧ g.bl 0 = some (.cells false false [LLI nx, LI pay, LI cost]) ∧ g.bl 1 = some (.cells false true (vecA (fun k => if k < i then M k n else 0) n)) ∧ g.bl H = some (.cells false true (vecA (fun k => if k < j then - nth (nth nx i) k else 0) n)) ∧ ∀ id, 2 ≤ id → id < H → g.bl id = h.bl id) (by simp (disch := first | (simp only [go_sem, gb0, eq_self]; done) | omega | (simp only [gl1, gl2]; omega)) only [go_sem, ↓reduceIte, Nat.reduceEqDiff, Nat.reduceAdd, Nat.reduceMul, Nat.reduceSub, Int.reduceToNat, Nat.reduceBEq])
          ⟨by simp (disch := first | (simp only [go_sem, gb0, eq_self]; done) | omega | (simp only [gl1, gl2]; omega)) only [go_sem, ↓reduceIte, Nat.reduceEqDiff, Nat.reduceAdd, Nat.reduceMul, Nat.reduceSub, Int.reduceToNat, Nat.reduceBEq, s1], by simp (disch := first | (simp only [go_sem, gb0, eq_self]; done) | omega | (simp only [gl1, gl2]; omega)) only [go_sem, ↓reduceIte, Nat.reduceEqDiff, Nat.reduceAdd, Nat.reduceMul, Nat.reduceSub, Int.reduceToNat, Nat.reduceBEq, s2], by simp (disch := first | (simp only [go_sem, gb0, eq_self]; done) | omega | (simp only [gl1, gl2]; omega)) only [go_sem, ↓reduceIte, Nat.reduceEqDiff, Nat.reduceAdd, Nat.reduceMul, Nat.reduceSub, Int.reduceToNat, Nat.reduceBEq, s5], by simp (disch := first | (simp only [go_sem, gb0, eq_self]; done) | omega | (simp only [gl1, gl2]; omega)) only [go_sem, ↓reduceIte, Nat.reduceEqDiff, Nat.reduceAdd, Nat.reduceMul, Nat.reduceSub, Int.reduceToNat, Nat.reduceBEq, s7], by simp (disch := first | (simp only [go_sem, gb0, eq_self]; done) | omega | (simp only [gl1, gl2]; omega)) only [go_sem, ↓reduceIte, Nat.reduceEqDiff, Nat.reduceAdd, Nat.reduceMul, Nat.reduceSub, Int.reduceToNat, Nat.reduceBEq, s8], by simp (disch := first | (simp only [go_sem, gb0, eq_self]; done) | omega | (simp only [gl1, gl2]; omega)) only [go_sem, ↓reduceIte, Nat.reduceEqDiff, Nat.reduceAdd, Nat.reduceMul, Nat.reduceSub, Int.reduceToNat, Nat.reduceBEq, s6], by simp (disch := first | (simp only [go_sem, gb0, eq_self]; done) | omega | (simp only [gl1, gl2]; omega)) only [go_sem, ↓reduceIte, Nat.reduceEqDiff, Nat.reduceAdd, Nat.reduceMul, Nat.reduceSub, Int.reduceToNat, Nat.reduceBEq], by (rw [hH]; rfl), by simp (disch := first | (simp only [go_sem, gb0, eq_self]; done) | omega | (simp only [gl1, gl2]; omega)) only [go_sem, ↓reduceIte, Nat.reduceEqDiff, Nat.reduceAdd, Nat.reduceMul, Nat.reduceSub, Int.reduceToNat, Nat.reduceBEq, b0, ← hH, n0H], by simp (disch := first | (simp only [go_sem, gb0, eq_self]; done) | omega | (simp only [gl1, gl2]; omega)) only [go_sem, ↓reduceIte, Nat.reduceEqDiff, Nat.reduceAdd, Nat.reduceMul, Nat.reduceSub, Int.reduceToNat, Nat.reduceBEq, b1, ← hH, n1H], by simp (disch := first | (simp only [go_sem, gb0, eq_self]; done) | omega | (simp only [gl1, gl2]; omega)) only [go_sem, ↓reduceIte, Nat.reduceEqDiff, Nat.reduceAdd, Nat.reduceMul, Nat.reduceSub, Int.reduceToNat, Nat.reduceBEq, ← hH]; rfl, fun id h2 h3 => by simp (disch := first | (simp only [go_sem, gb0, eq_self]; done) | omega | (simp only [gl1, gl2]; omega)) only [go_sem, ↓reduceIte, Nat.reduceEqDiff, Nat.reduceAdd, Nat.reduceMul, Nat.reduceSub, Int.reduceToNat, Nat.reduceBEq, ← hH, show ¬ id = H by omega]⟩ ?_
        rintro j st g hj s10 ⟨s1, s2, s5, s7, s8, s6, s9, gn, g0, g1, gH, go⟩
        by_cases hjn : j < n
        case neg =>
          have hje : j = n := by omega
          subst hje
          have he : vecA (fun k => if k < j then - nth (nth nx i) k else 0) j = vecA (fun k => - nth (nth nx i) k) j := vecA_congr fun k hk => if_pos hk
          rw [he] at gH
          simp (disch := first | (simp only [go_sem, gb0, eq_self]; done) | omega | (simp only [gl1, gl2]; omega)) only [go_sem, ↓reduceIte, Nat.reduceEqDiff, Nat.reduceAdd, Nat.reduceMul, Nat.reduceSub, Int.reduceToNat, Nat.reduceBEq, s1, s2, s5, s7, s8, s6, s9, s10, hjn]
          exact ⟨gn, g0, g1, gH, go⟩
        have hjr : j < (nth nx i).length := by omega
        have hjr' : (j : Int) < (nth nx i).length := by omega
        have hjn' : (j : Int) < n := by omega
        have hwb := C.wb hi1 (show j < nx.length by omega)
        have e1' : vecA (setV (fun k => if k < j then - nth (nth nx i) k else 0) j (- nth (nth nx i) j)) n = vecA (fun k => if k < j + 1 then - nth (nth nx i) k else 0) n := vecA_congr fun k hk => by
          unfold setV
          by_cases hkj : k = j
          · subst hkj; rw [if_pos rfl, if_pos (by omega)]
          · have : (k < j) ↔ (k < j + 1) := by omega
            simp [hkj, this]
        have hneg : (0 : Int) - nth (nth nx i) j = - nth (nth nx i) j := by omega
        simp (disch := first | (simp only [go_sem, gb0, eq_self]; done) | omega | (simp only [gl1, gl2]; omega)) only [go_sem, ↓reduceIte, Nat.reduceEqDiff, Nat.reduceAdd, Nat.reduceMul, Nat.reduceSub, Int.reduceToNat, Nat.reduceBEq, s1, s2, s5, s7, s8, s6, s9, s10, hjn, hjn', hi1, hi1', hjr, hjr', g0, gH, hneg, e1']
        rw [ForK_normal]
        refine ⟨hjn, by simp (disch := first | (simp only [go_sem, gb0, eq_self]; done) | omega | (simp only [gl1, gl2]; omega)) only [go_sem, ↓reduceIte, Nat.reduceEqDiff, Nat.reduceAdd, Nat.reduceMul, Nat.reduceSub, Int.reduceToNat, Nat.reduceBEq, s10], by simp (disch := first | (simp only [go_sem, gb0, eq_self]; done) | omega | (simp only [gl1, gl2]; omega)) only [go_sem, ↓reduceIte, Nat.reduceEqDiff, Nat.reduceAdd, Nat.reduceMul, Nat.reduceSub, Int.reduceToNat, Nat.reduceBEq, s1], by simp (disch := first | (simp only [go_sem, gb0, eq_self]; done) | omega | (simp only [gl1, gl2]; omega)) only [go_sem, ↓reduceIte, Nat.reduceEqDiff, Nat.reduceAdd, Nat.reduceMul, Nat.reduceSub, Int.reduceToNat, Nat.reduceBEq, s2], by simp (disch := first | (simp only [go_sem, gb0, eq_self]; done) | omega | (simp only [gl1, gl2]; omega)) only [go_sem, ↓reduceIte, Nat.reduceEqDiff, Nat.reduceAdd, Nat.reduceMul, Nat.reduceSub, Int.reduceToNat, Nat.reduceBEq, s5], by simp (disch := first | (simp only [go_sem, gb0, eq_self]; done) | omega | (simp only [gl1, gl2]; omega)) only [go_sem, ↓reduceIte, Nat.reduceEqDiff, Nat.reduceAdd, Nat.reduceMul, Nat.reduceSub, Int.reduceToNat, Nat.reduceBEq, s7], by simp (disch := first | (simp only [go_sem, gb0, eq_self]; done) | omega | (simp only [gl1, gl2]; omega)) only [go_sem, ↓reduceIte, Nat.reduceEqDiff, Nat.reduceAdd, Nat.reduceMul, Nat.reduceSub, Int.reduceToNat, Nat.reduceBEq, s8], by simp (disch := first | (simp only [go_sem, gb0, eq_self]; done) | omega | (simp only [gl1, gl2]; omega)) only [go_sem, ↓reduceIte, Nat.reduceEqDiff, Nat.reduceAdd, Nat.reduceMul, Nat.reduceSub, Int.reduceToNat, Nat.reduceBEq, s6], by simp (disch := first | (simp only [go_sem, gb0, eq_self]; done) | omega | (simp only [gl1, gl2]; omega)) only [go_sem, ↓reduceIte, Nat.reduceEqDiff, Nat.reduceAdd, Nat.reduceMul, Nat.reduceSub, Int.reduceToNat, Nat.reduceBEq, s9], by simp (disch := first | (simp only [go_sem, gb0, eq_self]; done) | omega | (simp only [gl1, gl2]; omega)) only [go_sem, ↓reduceIte, Nat.reduceEqDiff, Nat.reduceAdd, Nat.reduceMul, Nat.reduceSub, Int.reduceToNat, Nat.reduceBEq, gn], by simp (disch := first | (simp only [go_sem, gb0, eq_self]; done) | omega | (simp only [gl1, gl2]; omega)) only [go_sem, ↓reduceIte, Nat.reduceEqDiff, Nat.reduceAdd, Nat.reduceMul, Nat.reduceSub, Int.reduceToNat, Nat.reduceBEq, g0, n0H], by simp (disch := first | (simp only [go_sem, gb0, eq_self]; done) | omega | (simp only [gl1, gl2]; omega)) only [go_sem, ↓reduceIte, Nat.reduceEqDiff, Nat.reduceAdd, Nat.reduceMul, Nat.reduceSub, Int.reduceToNat, Nat.reduceBEq, g1, n1H], by simp (disch := first | (simp only [go_sem, gb0, eq_self]; done) | omega | (simp only [gl1, gl2]; omega)) only [go_sem, ↓reduceIte, Nat.reduceEqDiff, Nat.reduceAdd, Nat.reduceMul, Nat.reduceSub, Int.reduceToNat, Nat.reduceBEq], fun id h2 h3 => ?_⟩
        simp (disch := first | (simp only [go_sem, gb0, eq_self]; done) | omega | (simp only [gl1, gl2]; omega)) only [go_sem, ↓reduceIte, Nat.reduceEqDiff, Nat.reduceAdd, Nat.reduceMul, Nat.reduceSub, Int.reduceToNat, Nat.reduceBEq, show ¬ id = H by omega]
        exact go id h2 h3
      · rintro st g ⟨s1, s2, s5, s7, s8, s6, s9, gn, g0, g1, gH, go⟩
        have hwb := C.wb hi1 hi1
        have e1' : vecA (setV (fun k => - nth (nth nx i) k) i (- nth (nth nx i) i + 4)) n = vecA (M i) n := vecA_congr fun k hk => by
          unfold setV
          rw [hMi k hk]
          by_cases hki : k = i
          · rw [if_pos hki, if_pos hki, hki]
            show - nth (nth nx i) i + 4 = 4 - nth (nth nx i) i
            generalize nth (nth nx i) i = z
            omega
          · rw [if_neg hki, if_neg hki]
            show - nth (nth nx i) k = 0 - nth (nth nx i) k
            omega
        have e2' : vecA (setV (fun k => if k < i then M k n else 0) i (-4 * nth cost i)) n = vecA (fun k => if k < i + 1 then M k n else 0) n := vecA_congr fun j hj => by
          unfold setV
          by_cases hji : j = i
          · subst hji; rw [if_pos rfl, if_pos (by omega), hM]; unfold eqM; rw [hr]; simp [hn]
          · have : (j < i) ↔ (j < i + 1) := by omega
            simp [hji, this]
        simp (disch := first | (simp only [go_sem, gb0, eq_self]; done) | omega | (simp only [gl1, gl2]; omega)) only [go_sem, ↓reduceIte, Nat.reduceEqDiff, Nat.reduceAdd, Nat.reduceMul, Nat.reduceSub, Int.reduceToNat, Nat.reduceBEq, s1, s2, s5, s7, s8, s6, s9, hlt, hin', hic, hic', g0, g1, gH, n1H, n1H', n0H, n0H', e1', e2', List.drop_succ_cons]
        refine ⟨gn, fun id h2 h3 => ?_⟩
        rw [if_neg (by omega), if_neg (by omega)]
        exact go id h2 h3
    · rintro st g ⟨s1, s2, s5, s7, s8, s6, s9, gn, g0, g1, gH, go⟩
      have hse := seal_vec (h := g) gH
      have ov2 : OwnGe 2 (e1 LI) 1 (g.put H (some (.cells true true (vecA (M i) n)))) v ((List.range i).map R) := ov.mono (by show h.nx ≤ g.nx; omega) fun id h2 h3 => by
        rw [put_bl, if_neg (by omega)]; exact go id h2 (by omega)
      have hRi : (List.range n).map (M i) = R i := by rw [hR]
      rw [hRi] at hse
      have hbs := bsB_one (P := Try.prog) 23 _ (LI (R i)) .nil _ isz23 izero23 rfl rfl rfl hse rfl rfl (pure_L _)
      have happ := app_one (P := Try.prog) ov2.own 23 24 .nil (R i) isz23 ibytes23 izero23 rfl (by simp; omega) (by simp; omega)
      have l0 : (appH (g.put H (some (.cells true true (vecA (M i) n)))) v (((List.range i).map R ++ [R i]).flatMap (e1 LI))).bl 0 = some (.cells false false [LLI nx, LI pay, LI cost]) := by
        rw [ov2.low (by decide) (by show 0 < g.nx; omega), put_bl, if_neg (by omega)]; exact g0
      have l1 : (appH (g.put H (some (.cells true true (vecA (M i) n)))) v (((List.range i).map R ++ [R i]).flatMap (e1 LI))).bl 1 = some (.cells false true (vecA (fun k => if k < i + 1 then M k n else 0) n)) := by
        rw [ov2.low (by decide) (by show 1 < g.nx; omega), put_bl, if_neg (by omega)]; exact g1
      have ln : (appH (g.put H (some (.cells true true (vecA (M i) n)))) v (((List.range i).map R ++ [R i]).flatMap (e1 LI))).nx = H + 2 := by rw [appH_nx]; show g.nx + 1 = _; omega
      have lo : OwnGe 2 (e1 LI) 1 (appH (g.put H (some (.cells true true (vecA (M i) n)))) v (((List.range i).map R ++ [R i]).flatMap (e1 LI))) (appV (g.put H (some (.cells true true (vecA (M i) n)))) ((List.range i).map R ++ [R i]).length 1) ((List.range (i + 1)).map R) := by
        rw [← rows_snoc]
        exact OwnGe.app _ (by show 2 ≤ g.nx; omega) _
      generalize appH (g.put H (some (.cells true true (vecA (M i) n)))) v (((List.range i).map R ++ [R i]).flatMap (e1 LI)) = G at *
      generalize appV (g.put H (some (.cells true true (vecA (M i) n)))) ((List.range i).map R ++ [R i]).length 1 = u at *
      simp (disch := first | (simp only [go_sem, gb0, eq_self]; done) | omega | (simp only [gl1, gl2]; omega)) only [go_sem, ↓reduceIte, Nat.reduceEqDiff, Nat.reduceAdd, Nat.reduceMul, Nat.reduceSub, Int.reduceToNat, Nat.reduceBEq, s1, s2, s5, s7, s8, s6, s9, hbs, happ]
      rw [ForK_normal]
      exact ⟨hlt, by simp (disch := first | (simp only [go_sem, gb0, eq_self]; done) | omega | (simp only [gl1, gl2]; omega)) only [go_sem, ↓reduceIte, Nat.reduceEqDiff, Nat.reduceAdd, Nat.reduceMul, Nat.reduceSub, Int.reduceToNat, Nat.reduceBEq, s8], by simp (disch := first | (simp only [go_sem, gb0, eq_self]; done) | omega | (simp only [gl1, gl2]; omega)) only [go_sem, ↓reduceIte, Nat.reduceEqDiff, Nat.reduceAdd, Nat.reduceMul, Nat.reduceSub, Int.reduceToNat, Nat.reduceBEq, s1], by simp (disch := first | (simp only [go_sem, gb0, eq_self]; done) | omega | (simp only [gl1, gl2]; omega)) only [go_sem, ↓reduceIte, Nat.reduceEqDiff, Nat.reduceAdd, Nat.reduceMul, Nat.reduceSub, Int.reduceToNat, Nat.reduceBEq, s2], by simp (disch := first | (simp only [go_sem, gb0, eq_self]; done) | omega | (simp only [gl1, gl2]; omega)) only [go_sem, ↓reduceIte, Nat.reduceEqDiff, Nat.reduceAdd, Nat.reduceMul, Nat.reduceSub, Int.reduceToNat, Nat.reduceBEq, s5], by simp (disch := first | (simp only [go_sem, gb0, eq_self]; done) | omega | (simp only [gl1, gl2]; omega)) only [go_sem, ↓reduceIte, Nat.reduceEqDiff, Nat.reduceAdd, Nat.reduceMul, Nat.reduceSub, Int.reduceToNat, Nat.reduceBEq, s7], by omega, l0, l1, _, by simp (disch := first | (simp only [go_sem, gb0, eq_self]; done) | omega | (simp only [gl1, gl2]; omega)) only [go_sem, ↓reduceIte, Nat.reduceEqDiff, Nat.reduceAdd, Nat.reduceMul, Nat.reduceSub, Int.reduceToNat, Nat.reduceBEq], lo⟩
  · rintro st h ⟨s2, s5, s7, hnx, b1, v, s6, ov⟩
    have hRn : ∀ i, i < n → nth ((List.range n).map R) i = R i := fun i hi => nth_map_range _ _ _ hi
    have hRl : ∀ i, i < n → (R i).length = n := fun i hi => by rw [hR]; simp
    have hRv : ∀ i j, i < n → j < n → nth (R i) j = M i j := fun i j hi hj => by rw [hR]; exact nth_map_range _ _ _ hj
    have S := sys_of C.chn hs
    have hM' : eqM nx.length (fun i j => nth (nth nx i) j) (fun i => nth pay i) (fun i => nth cost i) (ruleB (xOf nx.length l)) = M := hM.symm
    rw [hM', ← hn] at S
    have hdne := S.det_ne (by omega)
    have hdB := S.dB
    have hbE := bE6 hn6
    rw [← hn] at hbE
    have hsq : sqM ((List.range n).map R) n := ⟨by simp, fun i hi => by rw [hRn i hi, hRl i hi], fun i hi => by
      have h1 := S.B i hi
      have h2 := sumN_congr (f := fun c => absI (nth (nth ((List.range n).map R) i) c)) (g := fun c => absI (M i c)) (n := n) fun c hc => by rw [hRn i hi, hRv i c hi hc]
      rw [h2]; omega⟩
    have c58 := f58_con n (by omega) _ hsq
    rw [det_congr (N := M) fun i j hi hj => by show nth (nth _ i) j = _; rw [hRn i hi, hRv i j hi hj]] at c58
    have k58 := fun h h' K => ConW_num (h := h) (h' := h') (K := K) c58 rfl
    obtain ⟨g0, hse, _⟩ := sealA_Own ov.own
    -- the list of rows, from now on
    obtain ⟨A, hA2, hv, hAn, bA⟩ : ∃ A, 2 ≤ A ∧ v = .sl A 0 n 1 ∧ A < h.nx ∧ h.bl A = some (.cells false true (((List.range n).map R).flatMap (e1 LI))) := by
      rcases ov with ⟨_, e⟩ | ⟨A, h1, h2, h3, h4⟩
      · have := congrArg List.length e; simp at this; omega
      · exact ⟨A, h1, by rw [h2]; simp, h3, h4⟩
    obtain ⟨D, hD⟩ : ∃ D, D = det n M := ⟨_, rfl⟩
    rw [← hD] at k58 hdne hdB
    simp (disch := first | (simp only [go_sem, gb0, eq_self]; done) | omega | (simp only [gl1, gl2]; omega)) only [go_sem, ↓reduceIte, Nat.reduceEqDiff, Nat.reduceAdd, Nat.reduceMul, Nat.reduceSub, Int.reduceToNat, Nat.reduceBEq, s2, s5, s6, s7, hse, k58]
    obtain ⟨fr, hfr⟩ : ∃ fr : Nat → Int × Int, fr = fun i => rdP (VN nx.length (wF nx) (pF pay) (pF cost) (ruleB (xOf nx.length l)) i) (DN nx.length (wF nx) (pF pay) (pF cost) (ruleB (xOf nx.length l))) := ⟨_, rfl⟩
    have hval : valL nx pay cost (xOf nx.length l) = (List.range n).map fr := by rw [hfr, valL, hn]
    obtain ⟨B, hB⟩ : ∃ B, B = h.nx := ⟨_, rfl⟩
    refine WP_cut (fun st h => ∃ v, st 12 = v ∧ Go.Am.Own eP 2 h v ((List.range n).map fr)) ?_ ?_
    · refine WP_for 13 n (fun k st h => st 5 = I n ∧ st 6 = .sl A 0 n 1 ∧ st 7 = .sl 1 0 n 1 ∧ st 11 = I D ∧ B ≤ h.nx ∧ h.bl 1 = some (.cells false true (vecA (fun i => M i n) n)) ∧ h.bl A = some (.cells false true (((List.range n).map R).flatMap (e1 LI))) ∧ ∃ u, st 12 = u ∧ OwnGe B eP 2 h u ((List.range k).map fr)) (by simp (disch := first | (simp only [go_sem, gb0, eq_self]; done) | omega | (simp only [gl1, gl2]; omega)) only [go_sem, ↓reduceIte, Nat.reduceEqDiff, Nat.reduceAdd, Nat.reduceMul, Nat.reduceSub, Int.reduceToNat, Nat.reduceBEq])
        ⟨by simp (disch := first | (simp only [go_sem, gb0, eq_self]; done) | omega | (simp only [gl1, gl2]; omega)) only [go_sem, ↓reduceIte, Nat.reduceEqDiff, Nat.reduceAdd, Nat.reduceMul, Nat.reduceSub, Int.reduceToNat, Nat.reduceBEq, s5], by simp (disch := first | (simp only [go_sem, gb0, eq_self]; done) | omega | (simp only [gl1, gl2]; omega)) only [go_sem, ↓reduceIte, Nat.reduceEqDiff, Nat.reduceAdd, Nat.reduceMul, Nat.reduceSub, Int.reduceToNat, Nat.reduceBEq, s6, hv], by simp (disch := first | (simp only [go_sem, gb0, eq_self]; done) | omega | (simp only [gl1, gl2]; omega)) only [go_sem, ↓reduceIte, Nat.reduceEqDiff, Nat.reduceAdd, Nat.reduceMul, Nat.reduceSub, Int.reduceToNat, Nat.reduceBEq, s7], by simp (disch := first | (simp only [go_sem, gb0, eq_self]; done) | omega | (simp only [gl1, gl2]; omega)) only [go_sem, ↓reduceIte, Nat.reduceEqDiff, Nat.reduceAdd, Nat.reduceMul, Nat.reduceSub, Int.reduceToNat, Nat.reduceBEq], by omega, b1, bA, .nil, by simp (disch := first | (simp only [go_sem, gb0, eq_self]; done) | omega | (simp only [gl1, gl2]; omega)) only [go_sem, ↓reduceIte, Nat.reduceEqDiff, Nat.reduceAdd, Nat.reduceMul, Nat.reduceSub, Int.reduceToNat, Nat.reduceBEq], .inl ⟨rfl, rfl⟩⟩ ?_
      rintro k st h hk s13 ⟨s5, s6, s7, s11, hBn, b1, bA, u, s12, ou⟩
      by_cases hkn : k < n
      case neg =>
        have hke : k = n := by omega
        subst hke
        simp (disch := first | (simp only [go_sem, gb0, eq_self]; done) | omega | (simp only [gl1, gl2]; omega)) only [go_sem, ↓reduceIte, Nat.reduceEqDiff, Nat.reduceAdd, Nat.reduceMul, Nat.reduceSub, Int.reduceToNat, Nat.reduceBEq, s5, s6, s7, s11, s12, s13, hkn]
        exact ⟨_, rfl, ou.own⟩
      have hkn' : (k : Int) < n := by omega
      simp (disch := first | (simp only [go_sem, gb0, eq_self]; done) | omega | (simp only [gl1, gl2]; omega)) only [go_sem, ↓reduceIte, Nat.reduceEqDiff, Nat.reduceAdd, Nat.reduceMul, Nat.reduceSub, Int.reduceToNat, Nat.reduceBEq, s5, s6, s7, s11, s12, s13, hkn]
      -- the matrix with a column put in
      obtain ⟨Q, hQ⟩ : ∃ Q : Nat → List Int, Q = fun i => (List.range n).map (setV (M i) k (M i n)) := ⟨_, rfl⟩
      obtain ⟨B2, hB2⟩ : ∃ B2, B2 = h.nx := ⟨_, rfl⟩
      refine WP_cut (fun st g => st 5 = I n ∧ st 6 = .sl A 0 n 1 ∧ st 7 = .sl 1 0 n 1 ∧ st 11 = I D ∧ st 12 = u ∧ st 13 = I k ∧ B2 ≤ g.nx ∧ (∀ id, id < B2 → g.bl id = h.bl id) ∧ ∃ y, st 14 = y ∧ OwnGe B2 (e1 LI) 1 g y ((List.range n).map Q)) ?_ ?_
      · refine WP_for 15 n (fun i st g => st 5 = I n ∧ st 6 = .sl A 0 n 1 ∧ st 7 = .sl 1 0 n 1 ∧ st 11 = I D ∧ st 12 = u ∧ st 13 = I k ∧ B2 ≤ g.nx ∧ (∀ id, id < B2 → g.bl id = h.bl id) ∧ ∃ y, st 14 = y ∧ OwnGe B2 (e1 LI) 1 g y ((List.range i).map Q)) (by simp (disch := first | (simp only [go_sem, gb0, eq_self]; done) | omega | (simp only [gl1, gl2]; omega)) only [go_sem, ↓reduceIte, Nat.reduceEqDiff, Nat.reduceAdd, Nat.reduceMul, Nat.reduceSub, Int.reduceToNat, Nat.reduceBEq])
          ⟨by simp (disch := first | (simp only [go_sem, gb0, eq_self]; done) | omega | (simp only [gl1, gl2]; omega)) only [go_sem, ↓reduceIte, Nat.reduceEqDiff, Nat.reduceAdd, Nat.reduceMul, Nat.reduceSub, Int.reduceToNat, Nat.reduceBEq, s5], by simp (disch := first | (simp only [go_sem, gb0, eq_self]; done) | omega | (simp only [gl1, gl2]; omega)) only [go_sem, ↓reduceIte, Nat.reduceEqDiff, Nat.reduceAdd, Nat.reduceMul, Nat.reduceSub, Int.reduceToNat, Nat.reduceBEq, s6], by simp (disch := first | (simp only [go_sem, gb0, eq_self]; done) | omega | (simp only [gl1, gl2]; omega)) only [go_sem, ↓reduceIte, Nat.reduceEqDiff, Nat.reduceAdd, Nat.reduceMul, Nat.reduceSub, Int.reduceToNat, Nat.reduceBEq, s7], by simp (disch := first | (simp only [go_sem, gb0, eq_self]; done) | omega | (simp only [gl1, gl2]; omega)) only [go_sem, ↓reduceIte, Nat.reduceEqDiff, Nat.reduceAdd, Nat.reduceMul, Nat.reduceSub, Int.reduceToNat, Nat.reduceBEq, s11], by simp (disch := first | (simp only [go_sem, gb0, eq_self]; done) | omega | (simp only [gl1, gl2]; omega)) only [go_sem, ↓reduceIte, Nat.reduceEqDiff, Nat.reduceAdd, Nat.reduceMul, Nat.reduceSub, Int.reduceToNat, Nat.reduceBEq, s12], by simp (disch := first | (simp only [go_sem, gb0, eq_self]; done) | omega | (simp only [gl1, gl2]; omega)) only [go_sem, ↓reduceIte, Nat.reduceEqDiff, Nat.reduceAdd, Nat.reduceMul, Nat.reduceSub, Int.reduceToNat, Nat.reduceBEq, s13], by omega, fun _ _ => rfl, .nil, by simp (disch := first | (simp only [go_sem, gb0, eq_self]; done) | omega | (simp only [gl1, gl2]; omega)) only [go_sem, ↓reduceIte, Nat.reduceEqDiff, Nat.reduceAdd, Nat.reduceMul, Nat.reduceSub, Int.reduceToNat, Nat.reduceBEq], .inl ⟨rfl, rfl⟩⟩ ?_
        rintro i st g hi s15 ⟨s5, s6, s7, s11, s12, s13, hgn, hgo, y, s14, oy⟩
        by_cases hin : i < n
        case neg =>
          have hie : i = n := by omega
          subst hie
          simp (disch := first | (simp only [go_sem, gb0, eq_self]; done) | omega | (simp only [gl1, gl2]; omega)) only [go_sem, ↓reduceIte, Nat.reduceEqDiff, Nat.reduceAdd, Nat.reduceMul, Nat.reduceSub, Int.reduceToNat, Nat.reduceBEq, s5, s6, s7, s11, s12, s13, s14, s15, hin]
          exact ⟨hgn, hgo, _, rfl, oy⟩
        have hin' : (i : Int) < n := by omega
        have gA : g.bl A = some (.cells false true (((List.range n).map R).flatMap (e1 LI))) := (hgo A (by omega)).trans bA
        have g1 : g.bl 1 = some (.cells false true (vecA (fun i => M i n) n)) := (hgo 1 (by omega)).trans b1
        have hgA : (((List.range n).map R).flatMap (e1 LI))[i]? = some (LI (R i)) := by
          rw [flat_get _ _ _ (by simp; omega), hRn i hin]
        have happ1 := app_nil (P := Try.prog) (h := g) (f := e1 I) 3 8 (I 0) (LI (R i)) (R i) isz3 ibytes3 izero3 rfl (cellsOf_L _ _) (lenA_L _ _) (by rw [hRl i hin]; omega) (by rw [hRl i hin]; omega)
        have hRf : (R i).flatMap (e1 I) = vecA (M i) n := by rw [hR, vecA_flat]
        rw [hRl i hin, hRf] at happ1
        obtain ⟨J, hJ⟩ : ∃ J, J = g.nx := ⟨_, rfl⟩
        have nJ1 : ¬ 1 = J := by omega
        have nJA : ¬ A = J := by omega
        -- the row once it is sealed
        obtain ⟨G, hG⟩ : ∃ G, G = (g.alloc (.cells false true (vecA (M i) n))).put J (some (.cells false true (vecA (setV (M i) k (M i n)) n))) := ⟨_, rfl⟩
        have hGJ : G.bl J = some (.cells false true (vecA (setV (M i) k (M i n)) n)) := by rw [hG, put_bl, if_pos rfl]
        have hGn : G.nx = J + 1 := by rw [hG, hJ]; rfl
        have hGo : ∀ id, id < J → G.bl id = g.bl id := fun id hid => by rw [hG, put_bl, if_neg (by omega), alloc_bl, if_neg (by omega)]
        have hse := seal_vec (h := G) hGJ
        have hQi : (List.range n).map (setV (M i) k (M i n)) = Q i := by rw [hQ]
        rw [hQi] at hse
        obtain ⟨G2, hG2⟩ : ∃ G2, G2 = G.put J (some (.cells true true (vecA (setV (M i) k (M i n)) n))) := ⟨_, rfl⟩
        rw [← hG2] at hse
        have hG2n : G2.nx = J + 1 := by rw [hG2]; exact hGn
        have hG2o : ∀ id, id < J → G2.bl id = g.bl id := fun id hid => by rw [hG2, put_bl, if_neg (by omega)]; exact hGo id hid
        have oy2 : OwnGe B2 (e1 LI) 1 G2 y ((List.range i).map Q) := oy.mono (by omega) fun id _ h3 => hG2o id (by omega)
        have hbs := bsB_one (P := Try.prog) 23 (.sl J 0 n 1) (LI (Q i)) .nil G2 isz23 izero23 rfl rfl rfl hse rfl rfl (pure_L _)
        have happ := app_one (P := Try.prog) oy2.own 23 24 .nil (Q i) isz23 ibytes23 izero23 rfl (by simp; omega) (by simp; omega)
        have ln : (appH G2 y (((List.range i).map Q ++ [Q i]).flatMap (e1 LI))).nx = J + 2 := by rw [appH_nx]; omega
        have lo : OwnGe B2 (e1 LI) 1 (appH G2 y (((List.range i).map Q ++ [Q i]).flatMap (e1 LI))) (appV G2 ((List.range i).map Q ++ [Q i]).length 1) ((List.range (i + 1)).map Q) := by
          rw [← rows_snoc]
          exact OwnGe.app _ (by omega) _
        have ll : ∀ id, id < B2 → (appH G2 y (((List.range i).map Q ++ [Q i]).flatMap (e1 LI))).bl id = h.bl id := fun id hid => by
          rw [oy2.low hid (by omega), hG2o id (by omega)]; exact hgo id hid
        generalize appH G2 y (((List.range i).map Q ++ [Q i]).flatMap (e1 LI)) = G3 at *
        generalize appV G2 ((List.range i).map Q ++ [Q i]).length 1 = y3 at *
        simp (disch := first | (simp only [go_sem, gb0, eq_self]; done) | omega | (simp only [gl1, gl2]; omega)) only [go_sem, ↓reduceIte, Nat.reduceEqDiff, Nat.reduceAdd, Nat.reduceMul, Nat.reduceSub, Int.reduceToNat, Nat.reduceBEq, s5, s6, s7, s11, s12, s13, s14, s15, hin, hin', hkn', gA, g1, hgA, happ1, ← hJ, nJ1, nJA, ← hG, hbs, happ]
        rw [ForK_normal]
        exact ⟨hin, by simp (disch := first | (simp only [go_sem, gb0, eq_self]; done) | omega | (simp only [gl1, gl2]; omega)) only [go_sem, ↓reduceIte, Nat.reduceEqDiff, Nat.reduceAdd, Nat.reduceMul, Nat.reduceSub, Int.reduceToNat, Nat.reduceBEq, s15], by simp (disch := first | (simp only [go_sem, gb0, eq_self]; done) | omega | (simp only [gl1, gl2]; omega)) only [go_sem, ↓reduceIte, Nat.reduceEqDiff, Nat.reduceAdd, Nat.reduceMul, Nat.reduceSub, Int.reduceToNat, Nat.reduceBEq, s5], by simp (disch := first | (simp only [go_sem, gb0, eq_self]; done) | omega | (simp only [gl1, gl2]; omega)) only [go_sem, ↓reduceIte, Nat.reduceEqDiff, Nat.reduceAdd, Nat.reduceMul, Nat.reduceSub, Int.reduceToNat, Nat.reduceBEq, s6], by simp (disch := first | (simp only [go_sem, gb0, eq_self]; done) | omega | (simp only [gl1, gl2]; omega)) only [go_sem, ↓reduceIte, Nat.reduceEqDiff, Nat.reduceAdd, Nat.reduceMul, Nat.reduceSub, Int.reduceToNat, Nat.reduceBEq, s7], by simp (disch := first | (simp only [go_sem, gb0, eq_self]; done) | omega | (simp only [gl1, gl2]; omega)) only [go_sem, ↓reduceIte, Nat.reduceEqDiff, Nat.reduceAdd, Nat.reduceMul, Nat.reduceSub, Int.reduceToNat, Nat.reduceBEq, s11], by simp (disch := first | (simp only [go_sem, gb0, eq_self]; done) | omega | (simp only [gl1, gl2]; omega)) only [go_sem, ↓reduceIte, Nat.reduceEqDiff, Nat.reduceAdd, Nat.reduceMul, Nat.reduceSub, Int.reduceToNat, Nat.reduceBEq, s12], by simp (disch := first | (simp only [go_sem, gb0, eq_self]; done) | omega | (simp only [gl1, gl2]; omega)) only [go_sem, ↓reduceIte, Nat.reduceEqDiff, Nat.reduceAdd, Nat.reduceMul, Nat.reduceSub, Int.reduceToNat, Nat.reduceBEq, s13], by omega, ll, _, by simp (disch := first | (simp only [go_sem, gb0, eq_self]; done) | omega | (simp only [gl1, gl2]; omega)) only [go_sem, ↓reduceIte, Nat.reduceEqDiff, Nat.reduceAdd, Nat.reduceMul, Nat.reduceSub, Int.reduceToNat, Nat.reduceBEq], lo⟩
      · rintro st g ⟨s5, s6, s7, s11, s12, s13, hgn, hgo, y, s14, oy⟩
        obtain ⟨gs, hse2, _⟩ := sealA_Own oy.own
        have hQn : ∀ i, i < n → nth ((List.range n).map Q) i = Q i := fun i hi => nth_map_range _ _ _ hi
        have hQv : ∀ i j, i < n → j < n → nth (Q i) j = setV (M i) k (M i n) j := fun i j hi hj => by rw [hQ]; exact nth_map_range _ _ _ hj
        have hsq2 : sqM ((List.range n).map Q) n := ⟨by simp, fun i hi => by rw [hQn i hi, hQ]; simp, fun i hi => by
          have h1 := S.B i hi
          have h3 := S.C i hi
          have h2 := sumN_congr (f := fun c => absI (nth (nth ((List.range n).map Q) i) c)) (g := fun c => absI (setV (M i) k (M i n) c)) (n := n) fun c hc => by rw [hQn i hi, hQv i c hi hc]
          have h4 : sumN (fun c => absI (setV (M i) k (M i n) c)) n ≤ sumN (fun c => absI (M i c) + (if c = k then absI (M i n) else 0)) n := sumN_le fun c hc => by
            unfold setV
            have := absI_nonneg (M i c)
            by_cases hck : c = k
            · rw [if_pos hck, if_pos hck]; omega
            · rw [if_neg hck, if_neg hck]; omega
          rw [sumN_add, sumN_single hkn fun c hc hne => if_neg hne, if_pos rfl] at h4
          rw [h2]; omega⟩
        have c58b := f58_con n (by omega) _ hsq2
        have hdk : det n (matL ((List.range n).map Q)) = solV n M k := det_congr fun i j hi hj => by
          show nth (nth _ i) j = _
          rw [hQn i hi, hQv i j hi hj]; rfl
        rw [hdk] at c58b
        have k58b := fun h h' K => ConW_num (h := h) (h' := h') (K := K) c58b rfl
        have hsB := S.solB hkn
        have hbC := bC6 hn6
        rw [← hn] at hbC
        have k53' := fun h h' K => k53 (h := h) (h' := h') (K := K) (solV n M k) D (by simp only [big]; omega) (by simp only [big]; omega) (by rw [hD] at hdne ⊢; exact hdne)
        have hfk : rdP (solV n M k) D = fr k := by
          rw [hfr]
          show _ = rdP (VN nx.length (wF nx) (pF pay) (pF cost) (ruleB (xOf nx.length l)) k) (DN nx.length (wF nx) (pF pay) (pF cost) (ruleB (xOf nx.length l)))
          unfold VN DN absI
          rw [← hM, ← hn, ← hD]
          by_cases hneg : D < 0
          · rw [if_pos hneg, show ((D.natAbs : Nat) : Int) = -D by omega, rdP_neg (by omega)]
          · rw [if_neg hneg, show ((D.natAbs : Nat) : Int) = D by omega]
        rw [hfk] at k53'
        have hbs2 := fun h => bsB_pair (P := Try.prog) (h := h) 37 (fr k).1 (fr k).2 0 0 isz37 izero37
        have ou2 : OwnGe B eP 2 g u ((List.range k).map fr) := ou.mono (by omega) fun id _ h3 => hgo id (by omega)
        have happ2 := app_pair (P := Try.prog) ou2.own 37 16 (.agg [I 0, I 0]) (fr k).1 (fr k).2 isz37 ibytes37 izero37 rfl (by simp; omega) (by simp; omega)
        have lb1 : (appH g u (((List.range k).map fr ++ [((fr k).1, (fr k).2)]).flatMap eP)).bl 1 = some (.cells false true (vecA (fun i => M i n) n)) := by
          rw [ou2.low (by omega) (by omega), hgo 1 (by omega)]; exact b1
        have lbA : (appH g u (((List.range k).map fr ++ [((fr k).1, (fr k).2)]).flatMap eP)).bl A = some (.cells false true (((List.range n).map R).flatMap (e1 LI))) := by
          rw [ou2.low (by omega) (by omega), hgo A (by omega)]; exact bA
        have lbn : B ≤ (appH g u (((List.range k).map fr ++ [((fr k).1, (fr k).2)]).flatMap eP)).nx := by rw [appH_nx]; omega
        have lbo : OwnGe B eP 2 (appH g u (((List.range k).map fr ++ [((fr k).1, (fr k).2)]).flatMap eP)) (appV g ((List.range k).map fr ++ [((fr k).1, (fr k).2)]).length 2) ((List.range (k + 1)).map fr) := by
          rw [← rows_snoc]
          exact OwnGe.app _ (by omega) _
        generalize appH g u (((List.range k).map fr ++ [((fr k).1, (fr k).2)]).flatMap eP) = G3 at *
        generalize appV g ((List.range k).map fr ++ [((fr k).1, (fr k).2)]).length 2 = u3 at *
        simp (disch := first | (simp only [go_sem, gb0, eq_self]; done) | omega | (simp only [gl1, gl2]; omega)) only [go_sem, ↓reduceIte, Nat.reduceEqDiff, Nat.reduceAdd, Nat.reduceMul, Nat.reduceSub, Int.reduceToNat, Nat.reduceBEq, s5, s6, s7, s11, s12, s13, s14, hse2, k58b, k53', hbs2, happ2]
        rw [ForK_normal]
        exact ⟨hkn, by simp (disch := first | (simp only [go_sem, gb0, eq_self]; done) | omega | (simp only [gl1, gl2]; omega)) only [go_sem, ↓reduceIte, Nat.reduceEqDiff, Nat.reduceAdd, Nat.reduceMul, Nat.reduceSub, Int.reduceToNat, Nat.reduceBEq, s13], by simp (disch := first | (simp only [go_sem, gb0, eq_self]; done) | omega | (simp only [gl1, gl2]; omega)) only [go_sem, ↓reduceIte, Nat.reduceEqDiff, Nat.reduceAdd, Nat.reduceMul, Nat.reduceSub, Int.reduceToNat, Nat.reduceBEq, s5], by simp (disch := first | (simp only [go_sem, gb0, eq_self]; done) | omega | (simp only [gl1, gl2]; omega)) only [go_sem, ↓reduceIte, Nat.reduceEqDiff, Nat.reduceAdd, Nat.reduceMul, Nat.reduceSub, Int.reduceToNat, Nat.reduceBEq, s6], by simp (disch := first | (simp only [go_sem, gb0, eq_self]; done) | omega | (simp only [gl1, gl2]; omega)) only [go_sem, ↓reduceIte, Nat.reduceEqDiff, Nat.reduceAdd, Nat.reduceMul, Nat.reduceSub, Int.reduceToNat, Nat.reduceBEq, s7], by simp (disch := first | (simp only [go_sem, gb0, eq_self]; done) | omega | (simp only [gl1, gl2]; omega)) only [go_sem, ↓reduceIte, Nat.reduceEqDiff, Nat.reduceAdd, Nat.reduceMul, Nat.reduceSub, Int.reduceToNat, Nat.reduceBEq, s11], lbn, lb1, lbA, _, by simp (disch := first | (simp only [go_sem, gb0, eq_self]; done) | omega | (simp only [gl1, gl2]; omega)) only [go_sem, ↓reduceIte, Nat.reduceEqDiff, Nat.reduceAdd, Nat.reduceMul, Nat.reduceSub, Int.reduceToNat, Nat.reduceBEq], lbo⟩
    · rintro st h ⟨u, s12, ou⟩
      simp (disch := first | (simp only [go_sem, gb0, eq_self]; done) | omega | (simp only [gl1, gl2]; omega)) only [go_sem, ↓reduceIte, Nat.reduceEqDiff, Nat.reduceAdd, Nat.reduceMul, Nat.reduceSub, Int.reduceToNat, Nat.reduceBEq, s12]
      rw [hn, hval]
      exact export_Own (f := eP) 28 ou
end Go.Proofs.Ytgamcclfdkpcgaa

set_option linter.unusedVariables false
set_option linter.unusedSimpArgs false
set_option maxRecDepth 10000
namespace Go.Proofs.Ytgamcclfdkpcgaa
open Go Go.Am

variable {h h' : Hp} {K : AV → Hp → Prop}

theorem f30_nil (p c : List Int) : Con Try.prog cfg 30 [.agg [.nil, LI p, LI c]] (.bool false) := by
  have hal : ∀ g : Hp, allocB g (some (.agg [.nil, LI p, LI c])) = some (.ptr g.nx 0, g.alloc (.cells false false [.nil, LI p, LI c])) := fun g => allocB_agg _ rfl
  have h01 : (0 : Int) < 1 := by decide
  have hl : ∀ h lim, lenB (some (.slice 23)) .nil h lim = some (I 0) := fun _ _ => rfl
  refine Con_intro Try.func30 rfl ok30 (Nat.le_of_ble_eq_true rfl) rfl ?_
  simp only [Try.f30, Option.getD_some, initSt1]
  simp (disch := first | (simp only [go_sem, gb0, eq_self]; done) | omega | (simp only [gl1, gl2]; omega)) only [go_sem, ↓reduceIte, Nat.reduceEqDiff, Nat.reduceAdd, Nat.reduceMul, Nat.reduceSub, Int.reduceToNat, Nat.reduceBEq, hal, hl, h01]
theorem f30_con (nx : List (List Int)) (pay cost : List Int) (hk : okN nx pay cost) : Con Try.prog cfg 30 [chA nx pay cost] (.bool (chB nx pay cost)) := by
  have ml : maxLen = 9223372036854775807 := by decide
  have hkn := hk.n
  have hkp := hk.p
  have hkc := hk.c
  have hal : ∀ g : Hp, allocB g (some (chA nx pay cost)) = some (.ptr g.nx 0, g.alloc (.cells false false [LLI nx, LI pay, LI cost])) := fun g => allocB_agg _ rfl
  obtain ⟨b, hb⟩ : ∃ b, b = chB nx pay cost := ⟨_, rfl⟩
  rw [← hb]
  by_cases e1 : (nx.length : Int) < 1
  · have hr : b = false := by rw [hb, chB, show inB nx.length 1 6 = false from by simp [inB]; omega]; rfl
    refine Con_intro Try.func30 rfl ok30 (Nat.le_of_ble_eq_true rfl) rfl ?_
    simp only [Try.f30, Option.getD_some, initSt1]
    simp (disch := first | (simp only [go_sem, gb0, eq_self]; done) | omega | (simp only [gl1, gl2]; omega)) only [go_sem, ↓reduceIte, Nat.reduceEqDiff, Nat.reduceAdd, Nat.reduceMul, Nat.reduceSub, Int.reduceToNat, Nat.reduceBEq, hal, e1, hr]
  by_cases e2 : 6 < (nx.length : Int)
  · have hr : b = false := by rw [hb, chB, show inB nx.length 1 6 = false from by simp [inB]; omega]; rfl
    refine Con_intro Try.func30 rfl ok30 (Nat.le_of_ble_eq_true rfl) rfl ?_
    simp only [Try.f30, Option.getD_some, initSt1]
    simp (disch := first | (simp only [go_sem, gb0, eq_self]; done) | omega | (simp only [gl1, gl2]; omega)) only [go_sem, ↓reduceIte, Nat.reduceEqDiff, Nat.reduceAdd, Nat.reduceMul, Nat.reduceSub, Int.reduceToNat, Nat.reduceBEq, hal, e1, e2, hr]
  by_cases c2 : pay.length = nx.length
  case neg =>
    have hr : b = false := by rw [hb, chB, decide_eq_false c2]; simp
    have c2' : ¬ (pay.length : Int) = nx.length := by omega
    refine Con_intro Try.func30 rfl ok30 (Nat.le_of_ble_eq_true rfl) rfl ?_
    simp only [Try.f30, Option.getD_some, initSt1]
    simp (disch := first | (simp only [go_sem, gb0, eq_self]; done) | omega | (simp only [gl1, gl2]; omega)) only [go_sem, ↓reduceIte, Nat.reduceEqDiff, Nat.reduceAdd, Nat.reduceMul, Nat.reduceSub, Int.reduceToNat, Nat.reduceBEq, hal, e1, e2, c2, hr, List.drop_succ_cons]
  by_cases c3 : cost.length = nx.length
  case neg =>
    have hr : b = false := by rw [hb, chB, decide_eq_false c3]; simp
    have c3' : ¬ (cost.length : Int) = nx.length := by omega
    refine Con_intro Try.func30 rfl ok30 (Nat.le_of_ble_eq_true rfl) rfl ?_
    simp only [Try.f30, Option.getD_some, initSt1]
    simp (disch := first | (simp only [go_sem, gb0, eq_self]; done) | omega | (simp only [gl1, gl2]; omega)) only [go_sem, ↓reduceIte, Nat.reduceEqDiff, Nat.reduceAdd, Nat.reduceMul, Nat.reduceSub, Int.reduceToNat, Nat.reduceBEq, hal, e1, e2, c2, c3, hr, eq_self, decide_true, Bool.not_true, List.drop_succ_cons]
  obtain ⟨n, hn⟩ : ∃ n, n = nx.length := ⟨_, rfl⟩
  have hno : ∀ i, i < n → stB nx pay cost i = false → b = false := fun i hi h => by rw [hb]; exact st_no (by omega) h
  have hyes : (∀ i, i < n → stB nx pay cost i = true) → b = true := fun h => by
    rw [hb, chB, c2, c3, allR fun i hi => h i (by omega), show inB nx.length 1 6 = true from by simp [inB]; omega]; simp
  have e1n := e1
  have e2n := e2
  have c2n := c2
  have c3n := c3
  rw [← hn] at e1n e2n c2n c3n
  refine Con_intro Try.func30 rfl ok30 (Nat.le_of_ble_eq_true rfl) rfl ?_
  simp only [Try.f30, Option.getD_some, initSt1]
  simp (disch := first | (simp only [go_sem, gb0, eq_self]; done) | omega | (simp only [gl1, gl2]; omega)) only [go_sem, ↓reduceIte, Nat.reduceEqDiff, Nat.reduceAdd, Nat.reduceMul, Nat.reduceSub, Int.reduceToNat, Nat.reduceBEq, hal, e1n, e2n, c2n, c3n, eq_self, decide_true, Bool.not_true, List.drop_succ_cons, ← hn]
  refine WP_for 4 n (fun i st h => st 1 = .ptr 0 0 ∧ st 3 = I n ∧ h.bl 0 = some (.cells false false [LLI nx, LI pay, LI cost]) ∧ ∀ k, k < i → stB nx pay cost k = true) (by simp (disch := first | (simp only [go_sem, gb0, eq_self]; done) | omega | (simp only [gl1, gl2]; omega)) only [go_sem, ↓reduceIte, Nat.reduceEqDiff, Nat.reduceAdd, Nat.reduceMul, Nat.reduceSub, Int.reduceToNat, Nat.reduceBEq]) ⟨by simp (disch := first | (simp only [go_sem, gb0, eq_self]; done) | omega | (simp only [gl1, gl2]; omega)) only [go_sem, ↓reduceIte, Nat.reduceEqDiff, Nat.reduceAdd, Nat.reduceMul, Nat.reduceSub, Int.reduceToNat, Nat.reduceBEq], by simp (disch := first | (simp only [go_sem, gb0, eq_self]; done) | omega | (simp only [gl1, gl2]; omega)) only [go_sem, ↓reduceIte, Nat.reduceEqDiff, Nat.reduceAdd, Nat.reduceMul, Nat.reduceSub, Int.reduceToNat, Nat.reduceBEq], by simp (disch := first | (simp only [go_sem, gb0, eq_self]; done) | omega | (simp only [gl1, gl2]; omega)) only [go_sem, ↓reduceIte, Nat.reduceEqDiff, Nat.reduceAdd, Nat.reduceMul, Nat.reduceSub, Int.reduceToNat, Nat.reduceBEq], by omega⟩ ?_
  rintro i st h hi s4 ⟨s1, s3, b0, hall⟩
  by_cases hlt : i < n
  case neg =>
    have hr := hyes fun k hk => hall k (by omega)
    simp (disch := first | (simp only [go_sem, gb0, eq_self]; done) | omega | (simp only [gl1, gl2]; omega)) only [go_sem, ↓reduceIte, Nat.reduceEqDiff, Nat.reduceAdd, Nat.reduceMul, Nat.reduceSub, Int.reduceToNat, Nat.reduceBEq, s1, s3, s4, hlt, hr]
  have hi1 : i < nx.length := by omega
  have hi1' : (i : Int) < nx.length := by omega
  have hip : i < pay.length := by omega
  have hip' : (i : Int) < pay.length := by omega
  have hic : i < cost.length := by omega
  have hic' : (i : Int) < cost.length := by omega
  have hnoi := hno i hlt
  have hrl := hk.row _ (nth_mem hi1)
  obtain ⟨r, hr⟩ : ∃ r, r = nth nx i := ⟨_, rfl⟩
  have hrr : nth nx i = r := hr.symm
  rw [hrr] at hrl
  have hst : stB nx pay cost i = (decide (r.length = n) && (inB (nth pay i) 0 1000 && (inB (nth cost i) 0 100 && rowB r))) := by rw [stB, hrr, hn]
  by_cases d1 : r.length = n
  case neg =>
    have hb := hnoi (by rw [hst, decide_eq_false d1]; rfl)
    have d1' : ¬ (r.length : Int) = n := by omega
    simp (disch := first | (simp only [go_sem, gb0, eq_self]; done) | omega | (simp only [gl1, gl2]; omega)) only [go_sem, ↓reduceIte, Nat.reduceEqDiff, Nat.reduceAdd, Nat.reduceMul, Nat.reduceSub, Int.reduceToNat, Nat.reduceBEq, s1, s3, s4, hlt, hi1, hi1', hrr, d1, d1', b0, hb]
  have d1' : (r.length : Int) = n := by omega
  have hin : ∀ {x lo hi : Int}, ¬ (lo ≤ x ∧ x ≤ hi) → inB x lo hi = false := fun h => by
    rw [inB, Bool.and_eq_false_iff, decide_eq_false_iff_not, decide_eq_false_iff_not]; omega
  by_cases d2 : nth pay i < 0
  · have hb := hnoi (by rw [hst, hin (x := nth pay i) (by omega)]; simp)
    simp (disch := first | (simp only [go_sem, gb0, eq_self]; done) | omega | (simp only [gl1, gl2]; omega)) only [go_sem, ↓reduceIte, Nat.reduceEqDiff, Nat.reduceAdd, Nat.reduceMul, Nat.reduceSub, Int.reduceToNat, Nat.reduceBEq, s1, s3, s4, hlt, hi1, hi1', hip, hip', hrr, d1, d1', d2, b0, hb, eq_self, decide_true, Bool.not_true, List.drop_succ_cons]
  by_cases d3 : 1000 < nth pay i
  · have hb := hnoi (by rw [hst, hin (x := nth pay i) (by omega)]; simp)
    simp (disch := first | (simp only [go_sem, gb0, eq_self]; done) | omega | (simp only [gl1, gl2]; omega)) only [go_sem, ↓reduceIte, Nat.reduceEqDiff, Nat.reduceAdd, Nat.reduceMul, Nat.reduceSub, Int.reduceToNat, Nat.reduceBEq, s1, s3, s4, hlt, hi1, hi1', hip, hip', hrr, d1, d1', d2, d3, b0, hb, eq_self, decide_true, Bool.not_true, List.drop_succ_cons]
  by_cases d4 : nth cost i < 0
  · have hb := hnoi (by rw [hst, hin (x := nth cost i) (by omega)]; simp)
    simp (disch := first | (simp only [go_sem, gb0, eq_self]; done) | omega | (simp only [gl1, gl2]; omega)) only [go_sem, ↓reduceIte, Nat.reduceEqDiff, Nat.reduceAdd, Nat.reduceMul, Nat.reduceSub, Int.reduceToNat, Nat.reduceBEq, s1, s3, s4, hlt, hi1, hi1', hip, hip', hic, hic', hrr, d1, d1', d2, d3, d4, b0, hb, eq_self, decide_true, Bool.not_true, List.drop_succ_cons]
  by_cases d5 : 100 < nth cost i
  · have hb := hnoi (by rw [hst, hin (x := nth cost i) (by omega)]; simp)
    simp (disch := first | (simp only [go_sem, gb0, eq_self]; done) | omega | (simp only [gl1, gl2]; omega)) only [go_sem, ↓reduceIte, Nat.reduceEqDiff, Nat.reduceAdd, Nat.reduceMul, Nat.reduceSub, Int.reduceToNat, Nat.reduceBEq, s1, s3, s4, hlt, hi1, hi1', hip, hip', hic, hic', hrr, d1, d1', d2, d3, d4, d5, b0, hb, eq_self, decide_true, Bool.not_true, List.drop_succ_cons]
  have hst2 : stB nx pay cost i = rowB r := by
    rw [hst, decide_eq_true d1, show inB (nth pay i) 0 1000 = true from by simp [inB]; omega, show inB (nth cost i) 0 100 = true from by simp [inB]; omega]; rfl
  simp (disch := first | (simp only [go_sem, gb0, eq_self]; done) | omega | (simp only [gl1, gl2]; omega)) only [go_sem, ↓reduceIte, Nat.reduceEqDiff, Nat.reduceAdd, Nat.reduceMul, Nat.reduceSub, Int.reduceToNat, Nat.reduceBEq, s1, s3, s4, hlt, hi1, hi1', hip, hip', hic, hic', hrr, d1, d1', d2, d3, d4, d5, b0, eq_self, decide_true, Bool.not_true, List.drop_succ_cons]
  refine WP_cut (fun st h => st 1 = .ptr 0 0 ∧ st 3 = I n ∧ st 4 = I i ∧ st 5 = I (sumN (fun j => nth r j) n) ∧ h.bl 0 = some (.cells false false [LLI nx, LI pay, LI cost]) ∧ ∀ k, k < n → inB (nth r k) 0 4 = true) ?_ ?_
  · refine WP_for 6 n (fun j st h => st 1 = .ptr 0 0 ∧ st 3 = I n ∧ st 4 = I i ∧ st 5 = I (sumN (fun j => nth r j) j) ∧ h.bl 0 = some (.cells false false [LLI nx, LI pay, LI cost]) ∧ ∀ k, k < j → inB (nth r k) 0 4 = true) (by simp (disch := first | (simp only [go_sem, gb0, eq_self]; done) | omega | (simp only [gl1, gl2]; omega)) only [go_sem, ↓reduceIte, Nat.reduceEqDiff, Nat.reduceAdd, Nat.reduceMul, Nat.reduceSub, Int.reduceToNat, Nat.reduceBEq])
      ⟨by simp (disch := first | (simp only [go_sem, gb0, eq_self]; done) | omega | (simp only [gl1, gl2]; omega)) only [go_sem, ↓reduceIte, Nat.reduceEqDiff, Nat.reduceAdd, Nat.reduceMul, Nat.reduceSub, Int.reduceToNat, Nat.reduceBEq, s1], by simp (disch := first | (simp only [go_sem, gb0, eq_self]; done) | omega | (simp only [gl1, gl2]; omega)) only [go_sem, ↓reduceIte, Nat.reduceEqDiff, Nat.reduceAdd, Nat.reduceMul, Nat.reduceSub, Int.reduceToNat, Nat.reduceBEq, s3], by simp (disch := first | (simp only [go_sem, gb0, eq_self]; done) | omega | (simp only [gl1, gl2]; omega)) only [go_sem, ↓reduceIte, Nat.reduceEqDiff, Nat.reduceAdd, Nat.reduceMul, Nat.reduceSub, Int.reduceToNat, Nat.reduceBEq, s4], by simp (disch := first | (simp only [go_sem, gb0, eq_self]; done) | omega | (simp only [gl1, gl2]; omega)) only [go_sem, ↓reduceIte, Nat.reduceEqDiff, Nat.reduceAdd, Nat.reduceMul, Nat.reduceSub, Int.reduceToNat, Nat.reduceBEq]; rfl, by simp (disch := first | (simp only [go_sem, gb0, eq_self]; done) | omega | (simp only [gl1, gl2]; omega)) only [go_sem, ↓reduceIte, Nat.reduceEqDiff, Nat.reduceAdd, Nat.reduceMul, Nat.reduceSub, Int.reduceToNat, Nat.reduceBEq, b0], by omega⟩ ?_
    rintro j st h hj s6 ⟨s1, s3, s4, s5, b0, hpj⟩
    by_cases hjn : j < n
    case neg =>
      have hje : j = n := by omega
      subst hje
      simp (disch := first | (simp only [go_sem, gb0, eq_self]; done) | omega | (simp only [gl1, gl2]; omega)) only [go_sem, ↓reduceIte, Nat.reduceEqDiff, Nat.reduceAdd, Nat.reduceMul, Nat.reduceSub, Int.reduceToNat, Nat.reduceBEq, s1, s3, s4, s5, s6, hjn]
      exact ⟨b0, hpj⟩
    have hjr : j < r.length := by omega
    have hjr' : (j : Int) < r.length := by omega
    by_cases f1 : nth r j < 0
    · have hb := hnoi (by rw [hst2, rowB, notR hjr (hin (x := nth r j) (by omega)), Bool.false_and])
      simp (disch := first | (simp only [go_sem, gb0, eq_self]; done) | omega | (simp only [gl1, gl2]; omega)) only [go_sem, ↓reduceIte, Nat.reduceEqDiff, Nat.reduceAdd, Nat.reduceMul, Nat.reduceSub, Int.reduceToNat, Nat.reduceBEq, s1, s3, s4, s5, s6, hi1, hi1', hrr, hjn, hjr, hjr', b0, f1, hb]
    by_cases f2 : 4 < nth r j
    · have hb := hnoi (by rw [hst2, rowB, notR hjr (hin (x := nth r j) (by omega)), Bool.false_and])
      simp (disch := first | (simp only [go_sem, gb0, eq_self]; done) | omega | (simp only [gl1, gl2]; omega)) only [go_sem, ↓reduceIte, Nat.reduceEqDiff, Nat.reduceAdd, Nat.reduceMul, Nat.reduceSub, Int.reduceToNat, Nat.reduceBEq, s1, s3, s4, s5, s6, hi1, hi1', hrr, hjn, hjr, hjr', b0, f1, f2, hb]
    have hsb := sum4 hpj
    have hs1 : sumN (fun k => nth r k) (j + 1) = sumN (fun k => nth r k) j + nth r j := rfl
    simp (disch := first | (simp only [go_sem, gb0, eq_self]; done) | omega | (simp only [gl1, gl2]; omega)) only [go_sem, ↓reduceIte, Nat.reduceEqDiff, Nat.reduceAdd, Nat.reduceMul, Nat.reduceSub, Int.reduceToNat, Nat.reduceBEq, s1, s3, s4, s5, s6, hi1, hi1', hrr, hjn, hjr, hjr', b0, f1, f2]
    rw [ForK_normal]
    refine ⟨hjn, by simp (disch := first | (simp only [go_sem, gb0, eq_self]; done) | omega | (simp only [gl1, gl2]; omega)) only [go_sem, ↓reduceIte, Nat.reduceEqDiff, Nat.reduceAdd, Nat.reduceMul, Nat.reduceSub, Int.reduceToNat, Nat.reduceBEq, s6], by simp (disch := first | (simp only [go_sem, gb0, eq_self]; done) | omega | (simp only [gl1, gl2]; omega)) only [go_sem, ↓reduceIte, Nat.reduceEqDiff, Nat.reduceAdd, Nat.reduceMul, Nat.reduceSub, Int.reduceToNat, Nat.reduceBEq, s1], by simp (disch := first | (simp only [go_sem, gb0, eq_self]; done) | omega | (simp only [gl1, gl2]; omega)) only [go_sem, ↓reduceIte, Nat.reduceEqDiff, Nat.reduceAdd, Nat.reduceMul, Nat.reduceSub, Int.reduceToNat, Nat.reduceBEq, s3], by simp (disch := first | (simp only [go_sem, gb0, eq_self]; done) | omega | (simp only [gl1, gl2]; omega)) only [go_sem, ↓reduceIte, Nat.reduceEqDiff, Nat.reduceAdd, Nat.reduceMul, Nat.reduceSub, Int.reduceToNat, Nat.reduceBEq, s4], by (rw [hs1]; simp (disch := first | (simp only [go_sem, gb0, eq_self]; done) | omega | (simp only [gl1, gl2]; omega)) only [go_sem, ↓reduceIte, Nat.reduceEqDiff, Nat.reduceAdd, Nat.reduceMul, Nat.reduceSub, Int.reduceToNat, Nat.reduceBEq]), b0, fun k hk => ?_⟩
    by_cases hkj : k = j
    · subst hkj; simp [inB]; omega
    · exact hpj k (by omega)
  · rintro st h ⟨s1, s3, s4, s5, b0, hpj⟩
    have hrb : rowB r = decide (sumN (fun j => nth r j) n ≤ 4) := by rw [rowB, d1, allR hpj, Bool.true_and]
    by_cases d5 : 4 < sumN (fun j => nth r j) n
    · have hb := hnoi (by rw [hst2, hrb]; exact decide_eq_false (by omega))
      simp (disch := first | (simp only [go_sem, gb0, eq_self]; done) | omega | (simp only [gl1, gl2]; omega)) only [go_sem, ↓reduceIte, Nat.reduceEqDiff, Nat.reduceAdd, Nat.reduceMul, Nat.reduceSub, Int.reduceToNat, Nat.reduceBEq, s1, s3, s4, s5, d5, hb]
    · simp (disch := first | (simp only [go_sem, gb0, eq_self]; done) | omega | (simp only [gl1, gl2]; omega)) only [go_sem, ↓reduceIte, Nat.reduceEqDiff, Nat.reduceAdd, Nat.reduceMul, Nat.reduceSub, Int.reduceToNat, Nat.reduceBEq, s1, s3, s4, s5, d5]
      rw [ForK_normal]
      refine ⟨hlt, by simp (disch := first | (simp only [go_sem, gb0, eq_self]; done) | omega | (simp only [gl1, gl2]; omega)) only [go_sem, ↓reduceIte, Nat.reduceEqDiff, Nat.reduceAdd, Nat.reduceMul, Nat.reduceSub, Int.reduceToNat, Nat.reduceBEq, s4], by simp (disch := first | (simp only [go_sem, gb0, eq_self]; done) | omega | (simp only [gl1, gl2]; omega)) only [go_sem, ↓reduceIte, Nat.reduceEqDiff, Nat.reduceAdd, Nat.reduceMul, Nat.reduceSub, Int.reduceToNat, Nat.reduceBEq, s1], by simp (disch := first | (simp only [go_sem, gb0, eq_self]; done) | omega | (simp only [gl1, gl2]; omega)) only [go_sem, ↓reduceIte, Nat.reduceEqDiff, Nat.reduceAdd, Nat.reduceMul, Nat.reduceSub, Int.reduceToNat, Nat.reduceBEq, s3], b0, fun k hk => ?_⟩
      by_cases hki : k = i
      · subst hki; rw [hst2, hrb]; exact decide_eq_true (by omega)
      · exact hall k (by omega)
end Go.Proofs.Ytgamcclfdkpcgaa

set_option linter.unusedVariables false
set_option linter.unusedSimpArgs false
set_option maxRecDepth 10000
namespace Go.Proofs.Ytgamcclfdkpcgaa
open Go Go.Am Go.RowKit Go.ChangeShapes Go.WideShapes

/-- A struct of three fields, each of one cell. -/
theorem Rd.three {P : Program} {t : TypeId} {α β γ : Type} {ga : α → Prop} {gb : β → Prop} {gc : γ → Prop} {fa : α → AV} {fb : β → AV} {fc : γ → AV} {f0 f1 f2 : Field} (ht : P.underlying t = some (.struct #[f0, f1, f2]))
    (h0 : f0.offset = 0) (h1 : f1.offset = 1) (h2 : f2.offset = 2) (ca : P.cellsOf f0.type = 1) (cb : P.cellsOf f1.type = 1) (cc : P.cellsOf f2.type = 1) (ct : P.cellsOf t = 3)
    (ha : Rd P f0.type ga (e1 fa)) (hb : Rd P f1.type gb (e1 fb)) (hc : Rd P f2.type gc (e1 fc)) :
    Rd P t (fun x : α × β × γ => ga x.1 ∧ gb x.2.1 ∧ gc x.2.2) (fun x => [fa x.1, fb x.2.1, fc x.2.2]) := by
  intro H enc w held fuel cs x h
  obtain ⟨ys, m, _, _, hl, hyl, hi⟩ := DataW.trod_struct ht h
  have i0 := hi 0 f0 rfl
  have i1 := hi 1 f1 rfl
  have i2 := hi 2 f2 rfl
  have e0 : (#[f0, f1, f2] : Array Field).size = 3 := rfl
  rw [e0] at hyl
  rw [List.getElem?_eq_getElem (by omega)] at i0 i1 i2
  obtain ⟨a, ga', ra⟩ := ha i0
  obtain ⟨b, gb', rb⟩ := hb i1
  obtain ⟨c, gc', rc⟩ := hc i2
  rw [h0, ca] at ra
  rw [h1, cb] at rb
  rw [h2, cc] at rc
  refine ⟨(a, b, c), ⟨ga', gb', gc'⟩, ?_, fun j u hu => ?_⟩
  · show 3 = _; omega
  · match j with
    | 0 =>
      cases hu
      obtain ⟨g1, v, g2, g3⟩ := ra.2 0 _ rfl
      refine ⟨g1, v, ?_, g3⟩
      rw [List.drop_zero, List.getElem?_take, if_pos (by omega)] at g2
      exact g2
    | 1 =>
      cases hu
      obtain ⟨g1, v, g2, g3⟩ := rb.2 0 _ rfl
      refine ⟨g1, v, ?_, g3⟩
      rw [List.getElem?_take, if_pos (by omega), List.getElem?_drop] at g2
      exact g2
    | 2 =>
      cases hu
      obtain ⟨g1, v, g2, g3⟩ := rc.2 0 _ rfl
      refine ⟨g1, v, ?_, g3⟩
      rw [List.getElem?_take, if_pos (by omega), List.getElem?_drop] at g2
      exact g2
    | j + 3 => cases hu
theorem rdI : Rd Try.prog 3 Go.Am.ok64 (e1 I) := Rd.int und3
theorem rdLI : Rd Try.prog 23 (fun xs : List Int => (∀ x ∈ xs, Go.Am.ok64 x) ∧ xs.length ≤ maxLen) (e1 LI) := Rd.sl und23 (by kernel_rfl) rdI (fun _ => rfl) (by decide)
theorem rdLLI : Rd Try.prog 22 (fun xs : List (List Int) => (∀ x ∈ xs, (∀ y ∈ x, Go.Am.ok64 y) ∧ x.length ≤ maxLen) ∧ xs.length ≤ maxLen) (e1 LLI) := Rd.sl und22 (by kernel_rfl) rdLI (fun _ => rfl) (by decide)
theorem rdChn : Rd Try.prog 25 (fun x : List (List Int) × List Int × List Int => ((∀ l ∈ x.1, (∀ y ∈ l, Go.Am.ok64 y) ∧ l.length ≤ maxLen) ∧ x.1.length ≤ maxLen) ∧ ((∀ y ∈ x.2.1, Go.Am.ok64 y) ∧ x.2.1.length ≤ maxLen) ∧ ((∀ y ∈ x.2.2, Go.Am.ok64 y) ∧ x.2.2.length ≤ maxLen)) (fun x => [LLI x.1, LI x.2.1, LI x.2.2]) :=
  Rd.three und25 rfl rfl rfl (by kernel_rfl) (by kernel_rfl) (by kernel_rfl) (by kernel_rfl) rdLLI rdLI rdLI
theorem okN.of {nx : List (List Int)} {pay cost : List Int} (h : ((∀ l ∈ nx, (∀ y ∈ l, Go.Am.ok64 y) ∧ l.length ≤ maxLen) ∧ nx.length ≤ maxLen) ∧ ((∀ y ∈ pay, Go.Am.ok64 y) ∧ pay.length ≤ maxLen) ∧ ((∀ y ∈ cost, Go.Am.ok64 y) ∧ cost.length ≤ maxLen)) : okN nx pay cost :=
  ⟨h.1.2, fun l hl => (h.1.1 l hl).2, h.2.1.2, h.2.2.2⟩
theorem nxM_len (nx : List (List Int)) : (nxM nx).length ≤ 8 := by simp [nxM]; omega
theorem listM_len (l : List Int) : (listM l).length ≤ 8 := by rw [listM, List.length_take]; omega
theorem okN.copy (nx : List (List Int)) (pay cost : List Int) : okN (nxM nx) (listM pay) (listM cost) := by
  have ml : maxLen = 9223372036854775807 := by decide
  have h1 := nxM_len nx
  have h2 := listM_len pay
  have h3 := listM_len cost
  refine ⟨by omega, fun l hl => ?_, by omega, by omega⟩
  obtain ⟨i, _, rfl⟩ := List.mem_map.1 hl
  have := listM_len (nth nx i)
  omega
end Go.Proofs.Ytgamcclfdkpcgaa
