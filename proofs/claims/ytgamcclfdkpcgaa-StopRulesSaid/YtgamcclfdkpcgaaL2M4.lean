/-
  The reference's tests of values; Best, Check.
  The reference's Chain.
  Chains and lists of fractions, read as lists of numbers.
  'StopBest' answers true.
  'StopRules' answers true.
-/
import Derived.Test.YtgamcclfdkpcgaaL2M3
import Derived.Test.YtgamcclfdkpcgaaL2M2
set_option linter.unusedVariables false
set_option linter.unusedSimpArgs false
set_option maxRecDepth 10000
namespace Go.Proofs.Ytgamcclfdkpcgaa
open Go Go.Am

variable {h h' : Hp} {K : AV → Hp → Prop}

theorem f71b_con (a b : Int) (ha : 0 ≤ a ∧ a ≤ 9223372036854775807) (hb : 0 ≤ b ∧ b ≤ 9223372036854775807) : Con Try.prog cfg 71 [I a, I b] (I (gcdI a b)) := by
  refine Con_intro Try.func71 rfl ok71 (Nat.le_of_ble_eq_true rfl) rfl ?_
  simp only [Try.f71, Option.getD_some, initSt2]
  simp (disch := first | (simp only [go_sem, Bool.and_self, eq_self]; done) | omega | (simp only [gl1, gl2]; omega)) only [go_sem, ↓reduceIte, Nat.reduceEqDiff, Nat.reduceAdd, Nat.reduceMul, Nat.reduceSub, Int.reduceToNat, Nat.reduceBEq]
  refine WP_loopK (fun m st h => ∃ x y : Int, m = y.toNat ∧ 0 ≤ x ∧ x ≤ 9223372036854775807 ∧ 0 ≤ y ∧ y ≤ 9223372036854775807 ∧ gcdI x y = gcdI a b ∧ st 0 = I x ∧ st 1 = I y) b.toNat
    ⟨a, b, rfl, ha.1, ha.2, hb.1, hb.2, rfl, by simp (disch := first | (simp only [go_sem, Bool.and_self, eq_self]; done) | omega | (simp only [gl1, gl2]; omega)) only [go_sem, ↓reduceIte, Nat.reduceEqDiff, Nat.reduceAdd, Nat.reduceMul, Nat.reduceSub, Int.reduceToNat, Nat.reduceBEq], by simp (disch := first | (simp only [go_sem, Bool.and_self, eq_self]; done) | omega | (simp only [gl1, gl2]; omega)) only [go_sem, ↓reduceIte, Nat.reduceEqDiff, Nat.reduceAdd, Nat.reduceMul, Nat.reduceSub, Int.reduceToNat, Nat.reduceBEq]⟩ ?_
  rintro n st h ⟨x, y, rfl, hx0, hx1, hy0, hy1, hgg, s0, s1⟩
  by_cases hy : 0 < y
  case neg =>
    obtain rfl : y = 0 := by omega
    rw [gcdI_zero] at hgg
    have : (x.natAbs : Int) = x := by omega
    rw [this] at hgg
    subst hgg
    have h00 : ¬ (0 : Int) < 0 := by decide
    simp (disch := first | (simp only [go_sem, Bool.and_self, eq_self]; done) | omega | (simp only [gl1, gl2]; omega)) only [go_sem, ↓reduceIte, Nat.reduceEqDiff, Nat.reduceAdd, Nat.reduceMul, Nat.reduceSub, Int.reduceToNat, Nat.reduceBEq, s0, s1, h00]
  have hy' : ¬ y = 0 := by omega
  have hm0 : 0 ≤ x.tmod y := Int.tmod_nonneg y hx0
  have hm1 : x.tmod y < y := Int.tmod_lt_of_pos x (by omega)
  simp (disch := first | (simp only [go_sem, Bool.and_self, eq_self]; done) | omega | (simp only [gl1, gl2]; omega)) only [go_sem, ↓reduceIte, Nat.reduceEqDiff, Nat.reduceAdd, Nat.reduceMul, Nat.reduceSub, Int.reduceToNat, Nat.reduceBEq, s0, s1, hy, hy']
  rw [LoopK_normal]
  exact ⟨(x.tmod y).toNat, by omega, y, x.tmod y, rfl, by omega, by omega, hm0, by omega, (gcdI_step x y).trans hgg, by simp (disch := first | (simp only [go_sem, Bool.and_self, eq_self]; done) | omega | (simp only [gl1, gl2]; omega)) only [go_sem, ↓reduceIte, Nat.reduceEqDiff, Nat.reduceAdd, Nat.reduceMul, Nat.reduceSub, Int.reduceToNat, Nat.reduceBEq], by simp (disch := first | (simp only [go_sem, Bool.and_self, eq_self]; done) | omega | (simp only [gl1, gl2]; omega)) only [go_sem, ↓reduceIte, Nat.reduceEqDiff, Nat.reduceAdd, Nat.reduceMul, Nat.reduceSub, Int.reduceToNat, Nat.reduceBEq]⟩
theorem f80_con (x : Int) (hx : -9223372036854775807 ≤ x ∧ x ≤ 9223372036854775807) : Con Try.prog cfg 80 [I x] (I (absI x)) := by
  have e : max x (0 - x) = absI x := by unfold absI; omega
  refine Con_intro Try.func80 rfl ok80 (Nat.le_of_ble_eq_true rfl) rfl ?_
  simp only [Try.f80, Option.getD_some, initSt1]
  simp (disch := first | (simp only [go_sem, Bool.and_self, eq_self]; done) | omega | (simp only [gl1, gl2]; omega)) only [go_sem, ↓reduceIte, Nat.reduceEqDiff, Nat.reduceAdd, Nat.reduceMul, Nat.reduceSub, Int.reduceToNat, Nat.reduceBEq, e]
def vldB (f : Int × Int) : Bool := decide (1 ≤ f.2) && decide (gcdI f.1 f.2 = 1)
theorem f67_con (f : Int × Int) (h2 : f.2 ≤ 9223372036854775807) : Con Try.prog cfg 67 [FR f] (.bool (vldB f)) := by
  have hal : ∀ (g : Hp) (x y : Int), allocB g (some (.agg [I x, I y])) = some (.ptr g.nx 0, g.alloc (.cells false false [I x, I y])) := fun g x y => allocB_agg _ rfl
  by_cases c1 : f.2 < 1
  · have hr : vldB f = false := by rw [vldB, decide_eq_false (show ¬ 1 ≤ f.2 by omega)]; rfl
    rw [hr]
    refine Con_intro Try.func67 rfl ok67 (Nat.le_of_ble_eq_true rfl) rfl ?_
    simp only [Try.f67, Option.getD_some, initSt1]
    simp (disch := first | (simp only [go_sem, Bool.and_self, eq_self]; done) | omega | (simp only [gl1, gl2]; omega)) only [go_sem, ↓reduceIte, Nat.reduceEqDiff, Nat.reduceAdd, Nat.reduceMul, Nat.reduceSub, Int.reduceToNat, Nat.reduceBEq, hal, c1]
  · have hr : vldB f = decide (gcdI f.1 f.2 = 1) := by rw [vldB, decide_eq_true (show 1 ≤ f.2 by omega)]; rfl
    have hm := tmod_lt_abs f.1 (show f.2 ≠ 0 by omega)
    have k80 := fun h h' K => ConW_num (h := h) (h' := h') (K := K) (f80_con (f.1.tmod f.2) (by omega)) rfl
    have e : gcdI f.2 (absI (f.1.tmod f.2)) = gcdI f.1 f.2 := by
      rw [← gcdI_step f.1 f.2]
      unfold gcdI absI
      congr 1
    have ha := absI_nonneg (f.1.tmod f.2)
    have k71' := fun h h' K => ConW_num (h := h) (h' := h') (K := K) (f71b_con f.2 (absI (f.1.tmod f.2)) (by omega) (by unfold absI at ha ⊢; omega)) rfl
    rw [e] at k71'
    have n0 : ¬ f.2 = 0 := by omega
    rw [hr]
    refine Con_intro Try.func67 rfl ok67 (Nat.le_of_ble_eq_true rfl) rfl ?_
    simp only [Try.f67, Option.getD_some, initSt1]
    simp (disch := first | (simp only [go_sem, Bool.and_self, eq_self]; done) | omega | (simp only [gl1, gl2]; omega)) only [go_sem, ↓reduceIte, Nat.reduceEqDiff, Nat.reduceAdd, Nat.reduceMul, Nat.reduceSub, Int.reduceToNat, Nat.reduceBEq, hal, c1, n0, k80, k71']
theorem f47_con (n : Nat) (v : List (Int × Int)) (hv : v.length ≤ maxLen) (h64 : ∀ f ∈ v, f.2 ≤ 9223372036854775807) : Con Try.prog cfg 47 [I n, LP v] (.bool (v.all isVB && decide (v.length = n))) := by
  have ml : maxLen = 9223372036854775807 := by decide
  refine Con_intro Try.func47 rfl ok47 (Nat.le_of_ble_eq_true rfl) rfl ?_
  simp only [Try.f47, Option.getD_some, initSt2]
  simp (disch := first | (simp only [go_sem, Bool.and_self, eq_self]; done) | omega | (simp only [gl1, gl2]; omega)) only [go_sem, ↓reduceIte, Nat.reduceEqDiff, Nat.reduceAdd, Nat.reduceMul, Nat.reduceSub, Int.reduceToNat, Nat.reduceBEq]
  refine WP_for 5 v.length (fun j st h => st 0 = I n ∧ st 1 = LP v ∧ ∀ k, k < j → isVB (nth v k) = true) (by simp (disch := first | (simp only [go_sem, Bool.and_self, eq_self]; done) | omega | (simp only [gl1, gl2]; omega)) only [go_sem, ↓reduceIte, Nat.reduceEqDiff, Nat.reduceAdd, Nat.reduceMul, Nat.reduceSub, Int.reduceToNat, Nat.reduceBEq]) ⟨by simp (disch := first | (simp only [go_sem, Bool.and_self, eq_self]; done) | omega | (simp only [gl1, gl2]; omega)) only [go_sem, ↓reduceIte, Nat.reduceEqDiff, Nat.reduceAdd, Nat.reduceMul, Nat.reduceSub, Int.reduceToNat, Nat.reduceBEq], by simp (disch := first | (simp only [go_sem, Bool.and_self, eq_self]; done) | omega | (simp only [gl1, gl2]; omega)) only [go_sem, ↓reduceIte, Nat.reduceEqDiff, Nat.reduceAdd, Nat.reduceMul, Nat.reduceSub, Int.reduceToNat, Nat.reduceBEq], by omega⟩ ?_
  rintro j st h hj s5 ⟨s0, s1, hall⟩
  by_cases hlt : j < v.length
  case neg =>
    have hr : v.all isVB = true := all_nth' fun k hk => hall k (by omega)
    by_cases hl : v.length = n
    · have hlt' : ¬ j < n := by omega
      simp (disch := first | (simp only [go_sem, Bool.and_self, eq_self]; done) | omega | (simp only [gl1, gl2]; omega)) only [go_sem, ↓reduceIte, Nat.reduceEqDiff, Nat.reduceAdd, Nat.reduceMul, Nat.reduceSub, Int.reduceToNat, Nat.reduceBEq, s0, s1, s5, hlt, hlt', hr, hl, eq_self, decide_true]
    · have hl' : ¬ (v.length : Int) = n := by omega
      simp (disch := first | (simp only [go_sem, Bool.and_self, eq_self]; done) | omega | (simp only [gl1, gl2]; omega)) only [go_sem, ↓reduceIte, Nat.reduceEqDiff, Nat.reduceAdd, Nat.reduceMul, Nat.reduceSub, Int.reduceToNat, Nat.reduceBEq, s0, s1, s5, hlt, hr, hl, hl']
  have hmem := nth_mem hlt
  have h2 := h64 _ hmem
  have k67 := fun h h' K => ConW_num (h := h) (h' := h') (K := K) (f67_con (nth v j) h2) rfl
  have hno : isVB (nth v j) = false → v.all isVB = false := fun h => List.all_eq_false.2 ⟨_, hmem, by rw [h]; decide⟩
  obtain ⟨f, hf⟩ : ∃ f, f = nth v j := ⟨_, rfl⟩
  rw [← hf] at k67 hno h2
  have hst : (∀ k, k < j → isVB (nth v k) = true) → isVB f = true → ∀ k, k < j + 1 → isVB (nth v k) = true := fun h1 h2 k hk => by
    by_cases hkj : k = j
    · subst hkj; rw [← hf]; exact h2
    · exact h1 k (by omega)
  cases c1 : vldB f with
  | false =>
    have hr := hno (by
      rw [vldB, Bool.and_eq_false_iff, decide_eq_false_iff_not, decide_eq_false_iff_not] at c1
      rw [isVB]
      rcases c1 with c1 | c1
      · rw [show inB f.2 1 1048576 = false from by rw [inB, decide_eq_false c1]; rfl]; rfl
      · rw [decide_eq_false c1, Bool.and_false, Bool.and_false])
    simp (disch := first | (simp only [go_sem, Bool.and_self, eq_self]; done) | omega | (simp only [gl1, gl2]; omega)) only [go_sem, ↓reduceIte, Nat.reduceEqDiff, Nat.reduceAdd, Nat.reduceMul, Nat.reduceSub, Int.reduceToNat, Nat.reduceBEq, s0, s1, s5, hlt, ← hf, k67, c1, hr]
  | true =>
    have c1' := c1
    simp only [vldB, Bool.and_eq_true, decide_eq_true_eq] at c1'
    by_cases d1 : f.1 < -1099511627776
    · have hr := hno (by rw [isVB, show inB f.1 (-1099511627776) 1099511627776 = false from by rw [inB, decide_eq_false (by omega)]; rfl, Bool.false_and, Bool.and_false])
      simp (disch := first | (simp only [go_sem, Bool.and_self, eq_self]; done) | omega | (simp only [gl1, gl2]; omega)) only [go_sem, ↓reduceIte, Nat.reduceEqDiff, Nat.reduceAdd, Nat.reduceMul, Nat.reduceSub, Int.reduceToNat, Nat.reduceBEq, s0, s1, s5, hlt, ← hf, k67, c1, d1, hr]
    by_cases d2 : 1099511627776 < f.1
    · have hr := hno (by rw [isVB, show inB f.1 (-1099511627776) 1099511627776 = false from by rw [inB, decide_eq_false (show ¬ f.1 ≤ 1099511627776 by omega), Bool.and_false], Bool.false_and, Bool.and_false])
      simp (disch := first | (simp only [go_sem, Bool.and_self, eq_self]; done) | omega | (simp only [gl1, gl2]; omega)) only [go_sem, ↓reduceIte, Nat.reduceEqDiff, Nat.reduceAdd, Nat.reduceMul, Nat.reduceSub, Int.reduceToNat, Nat.reduceBEq, s0, s1, s5, hlt, ← hf, k67, c1, d1, d2, hr]
    by_cases d3 : 1048576 < f.2
    · have hr := hno (by rw [isVB, show inB f.2 1 1048576 = false from by rw [inB, decide_eq_false (show ¬ f.2 ≤ 1048576 by omega), Bool.and_false]]; rfl)
      simp (disch := first | (simp only [go_sem, Bool.and_self, eq_self]; done) | omega | (simp only [gl1, gl2]; omega)) only [go_sem, ↓reduceIte, Nat.reduceEqDiff, Nat.reduceAdd, Nat.reduceMul, Nat.reduceSub, Int.reduceToNat, Nat.reduceBEq, s0, s1, s5, hlt, ← hf, k67, c1, d1, d2, d3, hr, List.drop_succ_cons]
    have hy : isVB f = true := by
      rw [isVB, inB, inB, decide_eq_true c1'.1, decide_eq_true (show f.2 ≤ 1048576 by omega), decide_eq_true (show -1099511627776 ≤ f.1 by omega), decide_eq_true (show f.1 ≤ 1099511627776 by omega), decide_eq_true c1'.2]; rfl
    simp (disch := first | (simp only [go_sem, Bool.and_self, eq_self]; done) | omega | (simp only [gl1, gl2]; omega)) only [go_sem, ↓reduceIte, Nat.reduceEqDiff, Nat.reduceAdd, Nat.reduceMul, Nat.reduceSub, Int.reduceToNat, Nat.reduceBEq, s0, s1, s5, hlt, ← hf, k67, c1, d1, d2, d3, List.drop_succ_cons]
    rw [ForK_normal]
    exact ⟨hlt, by simp (disch := first | (simp only [go_sem, Bool.and_self, eq_self]; done) | omega | (simp only [gl1, gl2]; omega)) only [go_sem, ↓reduceIte, Nat.reduceEqDiff, Nat.reduceAdd, Nat.reduceMul, Nat.reduceSub, Int.reduceToNat, Nat.reduceBEq, s5], by simp (disch := first | (simp only [go_sem, Bool.and_self, eq_self]; done) | omega | (simp only [gl1, gl2]; omega)) only [go_sem, ↓reduceIte, Nat.reduceEqDiff, Nat.reduceAdd, Nat.reduceMul, Nat.reduceSub, Int.reduceToNat, Nat.reduceBEq, s0], by simp (disch := first | (simp only [go_sem, Bool.and_self, eq_self]; done) | omega | (simp only [gl1, gl2]; omega)) only [go_sem, ↓reduceIte, Nat.reduceEqDiff, Nat.reduceAdd, Nat.reduceMul, Nat.reduceSub, Int.reduceToNat, Nat.reduceBEq, s1], hst hall hy⟩

/-! ### Best and Check, with the answer of best put in -/
theorem f46_nil (p c : List Int) (v : List (Int × Int)) : Con Try.prog cfgX 46 [.agg [.nil, LI p, LI c], LP v] (I 2) := by
  have hal : ∀ g : Hp, allocB g (some (.agg [.nil, LI p, LI c])) = some (.ptr g.nx 0, g.alloc (.cells false false [.nil, LI p, LI c])) := fun g => allocB_agg _ rfl
  have k48 := fun h h' K => ConW_num (h := h) (h' := h') (K := K) (liftX (by decide) (f48_nil p c)) rfl
  have hse : ∀ h : Hp, sealA h (.agg [.nil, LI p, LI c]) = some (.agg [.nil, LI p, LI c], h) := fun h => sealA_agg _ (by simp only [AV.pureL, pure_L, Bool.and_true]; rfl)
  refine Con_intro Try.func46 rfl okX46 (Nat.le_of_ble_eq_true rfl) rfl ?_
  simp only [Try.f46, Option.getD_some, initSt2]
  simp (disch := first | (simp only [go_sem, Bool.and_self, eq_self]; done) | omega | (simp only [gl1, gl2]; omega)) only [go_sem, ↓reduceIte, Nat.reduceEqDiff, Nat.reduceAdd, Nat.reduceMul, Nat.reduceSub, Int.reduceToNat, Nat.reduceBEq, hal, k48, hse]
def chkR (nx : List (List Int)) (pay cost : List Int) (b v : List (Int × Int)) : Int := if chB nx pay cost && (decide (v.length = nx.length) && v.all isVB) then (if v = b then 0 else 10) else 2
theorem f46_con (nx : List (List Int)) (pay cost : List Int) (hk : okN nx pay cost) (v : List (Int × Int)) (hv : v.length ≤ maxLen) : Con Try.prog cfgX 46 [chA nx pay cost, LP v] (I (chkR nx pay cost (bestL nx pay cost) v)) := by
  have ml : maxLen = 9223372036854775807 := by decide
  have hkn := hk.n
  have hal : ∀ g : Hp, allocB g (some (chA nx pay cost)) = some (.ptr g.nx 0, g.alloc (.cells false false [LLI nx, LI pay, LI cost])) := fun g => allocB_agg _ rfl
  have k48 := fun h h' K => ConW_num (h := h) (h' := h') (K := K) (liftX (by decide) (f48_con nx pay cost hk)) rfl
  have hse : ∀ h : Hp, sealA h (chA nx pay cost) = some (chA nx pay cost, h) := fun h => sealA_agg _ (by simp only [AV.pureL, pure_L, Bool.and_true])
  have k63 := fun h h' K => ConW_num (h := h) (h' := h') (K := K) (liftX (by decide) (f63_con v hv)) rfl
  have hse2 : ∀ h : Hp, sealA h (.fn 64 []) = some (.fn 64 [], h) := fun _ => rfl
  cases c1 : chB nx pay cost with
  | false =>
    have hr : chkR nx pay cost (bestL nx pay cost) v = 2 := by rw [chkR, c1]; rfl
    rw [hr]
    refine Con_intro Try.func46 rfl okX46 (Nat.le_of_ble_eq_true rfl) rfl ?_
    simp only [Try.f46, Option.getD_some, initSt2]
    simp (disch := first | (simp only [go_sem, Bool.and_self, eq_self]; done) | omega | (simp only [gl1, gl2]; omega)) only [go_sem, ↓reduceIte, Nat.reduceEqDiff, Nat.reduceAdd, Nat.reduceMul, Nat.reduceSub, Int.reduceToNat, Nat.reduceBEq, hal, k48, hse, c1]
  | true =>
  by_cases c2 : v.length = nx.length
  case neg =>
    have hr : chkR nx pay cost (bestL nx pay cost) v = 2 := by rw [chkR, c1, decide_eq_false c2]; rfl
    rw [hr]
    refine Con_intro Try.func46 rfl okX46 (Nat.le_of_ble_eq_true rfl) rfl ?_
    simp only [Try.f46, Option.getD_some, initSt2]
    simp (disch := first | (simp only [go_sem, Bool.and_self, eq_self]; done) | omega | (simp only [gl1, gl2]; omega)) only [go_sem, ↓reduceIte, Nat.reduceEqDiff, Nat.reduceAdd, Nat.reduceMul, Nat.reduceSub, Int.reduceToNat, Nat.reduceBEq, hal, k48, hse, c1, c2]
  cases c3 : v.all isVB with
  | false =>
    have hr : chkR nx pay cost (bestL nx pay cost) v = 2 := by rw [chkR, c1, c3, Bool.and_false]; rfl
    rw [hr]
    refine Con_intro Try.func46 rfl okX46 (Nat.le_of_ble_eq_true rfl) rfl ?_
    simp only [Try.f46, Option.getD_some, initSt2]
    simp (disch := first | (simp only [go_sem, Bool.and_self, eq_self]; done) | omega | (simp only [gl1, gl2]; omega)) only [go_sem, ↓reduceIte, Nat.reduceEqDiff, Nat.reduceAdd, Nat.reduceMul, Nat.reduceSub, Int.reduceToNat, Nat.reduceBEq, hal, k48, hse, hse2, k63, c1, c2, c3, eq_self, decide_true, Bool.not_true]
  | true =>
    have C := okC.of c1
    have hr : chkR nx pay cost (bestL nx pay cost) v = if v = bestL nx pay cost then 0 else 10 := by rw [chkR, c1, c2, c3]; simp
    have hbl := bestL_len C
    have kb := fun h h' K => ConW_any (h := h) (h' := h') (K := K) (bestX C) rfl
    have hi : ∀ (h : Hp) (l : List (Int × Int)), importR h (LP l) = (LP l, h) := fun _ _ => rfl
    have k66 := fun h h' K => ConW_num (h := h) (h' := h') (K := K) (liftX (by decide) (f66_con v (bestL nx pay cost) hv (by omega))) rfl
    rw [hr]
    generalize bestL nx pay cost = b at *
    by_cases c4 : v = b
    · subst c4
      rw [if_pos rfl]
      refine Con_intro Try.func46 rfl okX46 (Nat.le_of_ble_eq_true rfl) rfl ?_
      simp only [Try.f46, Option.getD_some, initSt2]
      simp (disch := first | (simp only [go_sem, Bool.and_self, eq_self]; done) | omega | (simp only [gl1, gl2]; omega)) only [go_sem, ↓reduceIte, Nat.reduceEqDiff, Nat.reduceAdd, Nat.reduceMul, Nat.reduceSub, Int.reduceToNat, Nat.reduceBEq, hal, k48, hse, hse2, k63, c1, c2, c3, kb, hi, k66, eq_self, decide_true, Bool.not_true]
    · rw [if_neg c4]
      refine Con_intro Try.func46 rfl okX46 (Nat.le_of_ble_eq_true rfl) rfl ?_
      simp only [Try.f46, Option.getD_some, initSt2]
      simp (disch := first | (simp only [go_sem, Bool.and_self, eq_self]; done) | omega | (simp only [gl1, gl2]; omega)) only [go_sem, ↓reduceIte, Nat.reduceEqDiff, Nat.reduceAdd, Nat.reduceMul, Nat.reduceSub, Int.reduceToNat, Nat.reduceBEq, hal, k48, hse, hse2, k63, c1, c2, c3, kb, hi, k66, c4, eq_self, decide_true, Bool.not_true]
theorem f16_nil (p c : List Int) : Con Try.prog cfgX 16 [.agg [.nil, LI p, LI c]] (.tup [LP [], LI [], I 2]) := by
  have hal : ∀ g : Hp, allocB g (some (.agg [.nil, LI p, LI c])) = some (.ptr g.nx 0, g.alloc (.cells false false [.nil, LI p, LI c])) := fun g => allocB_agg _ rfl
  have k48 := fun h h' K => ConW_num (h := h) (h' := h') (K := K) (liftX (by decide) (f48_nil p c)) rfl
  have hse : ∀ h : Hp, sealA h (.agg [.nil, LI p, LI c]) = some (.agg [.nil, LI p, LI c], h) := fun h => sealA_agg _ (by simp only [AV.pureL, pure_L, Bool.and_true]; rfl)
  refine Con_intro Try.func16 rfl okX16 (Nat.le_of_ble_eq_true rfl) rfl ?_
  simp only [Try.f16, Option.getD_some, initSt1]
  simp (disch := first | (simp only [go_sem, Bool.and_self, eq_self]; done) | omega | (simp only [gl1, gl2]; omega)) only [go_sem, ↓reduceIte, Nat.reduceEqDiff, Nat.reduceAdd, Nat.reduceMul, Nat.reduceSub, Int.reduceToNat, Nat.reduceBEq, hal, k48, hse]
  rfl
def bstR (nx : List (List Int)) (pay cost : List Int) (b : List (Int × Int)) : AV := if chB nx pay cost then .tup [LP b, LI (stopsL nx.length pay b nx.length), I 0] else .tup [LP [], LI [], I 2]
theorem f16_con (nx : List (List Int)) (pay cost : List Int) (hk : okN nx pay cost) : Con Try.prog cfgX 16 [chA nx pay cost] (bstR nx pay cost (bestL nx pay cost)) := by
  have ml : maxLen = 9223372036854775807 := by decide
  have hal : ∀ g : Hp, allocB g (some (chA nx pay cost)) = some (.ptr g.nx 0, g.alloc (.cells false false [LLI nx, LI pay, LI cost])) := fun g => allocB_agg _ rfl
  have hal2 : ∀ (g : Hp) (x y : Int), allocB g (some (.agg [I x, I y])) = some (.ptr g.nx 0, g.alloc (.cells false false [I x, I y])) := fun g x y => allocB_agg _ rfl
  have k48 := fun h h' K => ConW_num (h := h) (h' := h') (K := K) (liftX (by decide) (f48_con nx pay cost hk)) rfl
  have hse : ∀ h : Hp, sealA h (chA nx pay cost) = some (chA nx pay cost, h) := fun h => sealA_agg _ (by simp only [AV.pureL, pure_L, Bool.and_true])
  cases c1 : chB nx pay cost with
  | false =>
    have hr : bstR nx pay cost (bestL nx pay cost) = .tup [LP [], LI [], I 2] := by rw [bstR, c1]; rfl
    rw [hr]
    refine Con_intro Try.func16 rfl okX16 (Nat.le_of_ble_eq_true rfl) rfl ?_
    simp only [Try.f16, Option.getD_some, initSt1]
    simp (disch := first | (simp only [go_sem, Bool.and_self, eq_self]; done) | omega | (simp only [gl1, gl2]; omega)) only [go_sem, ↓reduceIte, Nat.reduceEqDiff, Nat.reduceAdd, Nat.reduceMul, Nat.reduceSub, Int.reduceToNat, Nat.reduceBEq, hal, k48, hse, c1]
    rfl
  | true =>
    have C := okC.of c1
    have hr : bstR nx pay cost (bestL nx pay cost) = .tup [LP (bestL nx pay cost), LI (stopsL nx.length pay (bestL nx pay cost) nx.length), I 0] := by rw [bstR, c1]; rfl
    have hbl := bestL_len C
    have hlp := C.lp
    have hn6 := C.n6
    have kb := fun h h' K => ConW_any (h := h) (h' := h') (K := K) (bestX C) rfl
    have hi : ∀ (h : Hp) (l : List (Int × Int)), importR h (LP l) = (LP l, h) := fun _ _ => rfl
    rw [hr]
    generalize bestL nx pay cost = b at *
    obtain ⟨n, hn⟩ : ∃ n, n = nx.length := ⟨_, rfl⟩
    rw [← hn] at hbl ⊢
    refine Con_intro Try.func16 rfl okX16 (Nat.le_of_ble_eq_true rfl) rfl ?_
    simp only [Try.f16, Option.getD_some, initSt1]
    simp (disch := first | (simp only [go_sem, Bool.and_self, eq_self]; done) | omega | (simp only [gl1, gl2]; omega)) only [go_sem, ↓reduceIte, Nat.reduceEqDiff, Nat.reduceAdd, Nat.reduceMul, Nat.reduceSub, Int.reduceToNat, Nat.reduceBEq, hal, k48, hse, c1, kb, hi]
    refine WP_cut (fun st h => st 5 = LP b ∧ ∃ y, st 6 = y ∧ Go.Am.Own (e1 I) 1 h y (stopsL n pay b n)) ?_ ?_
    · refine WP_for 16 n (fun i st g => st 1 = .ptr 0 0 ∧ st 5 = LP b ∧ st 14 = LP b ∧ st 15 = I n ∧ 1 ≤ g.nx ∧ g.bl 0 = some (.cells false false [LLI nx, LI pay, LI cost]) ∧ ∃ y, st 6 = y ∧ OwnGe 1 (e1 I) 1 g y (stopsL n pay b i)) (by simp (disch := first | (simp only [go_sem, Bool.and_self, eq_self]; done) | omega | (simp only [gl1, gl2]; omega)) only [go_sem, ↓reduceIte, Nat.reduceEqDiff, Nat.reduceAdd, Nat.reduceMul, Nat.reduceSub, Int.reduceToNat, Nat.reduceBEq])
        ⟨by simp (disch := first | (simp only [go_sem, Bool.and_self, eq_self]; done) | omega | (simp only [gl1, gl2]; omega)) only [go_sem, ↓reduceIte, Nat.reduceEqDiff, Nat.reduceAdd, Nat.reduceMul, Nat.reduceSub, Int.reduceToNat, Nat.reduceBEq], by simp (disch := first | (simp only [go_sem, Bool.and_self, eq_self]; done) | omega | (simp only [gl1, gl2]; omega)) only [go_sem, ↓reduceIte, Nat.reduceEqDiff, Nat.reduceAdd, Nat.reduceMul, Nat.reduceSub, Int.reduceToNat, Nat.reduceBEq], by simp (disch := first | (simp only [go_sem, Bool.and_self, eq_self]; done) | omega | (simp only [gl1, gl2]; omega)) only [go_sem, ↓reduceIte, Nat.reduceEqDiff, Nat.reduceAdd, Nat.reduceMul, Nat.reduceSub, Int.reduceToNat, Nat.reduceBEq], by simp (disch := first | (simp only [go_sem, Bool.and_self, eq_self]; done) | omega | (simp only [gl1, gl2]; omega)) only [go_sem, ↓reduceIte, Nat.reduceEqDiff, Nat.reduceAdd, Nat.reduceMul, Nat.reduceSub, Int.reduceToNat, Nat.reduceBEq, hbl], by simp (disch := first | (simp only [go_sem, Bool.and_self, eq_self]; done) | omega | (simp only [gl1, gl2]; omega)) only [go_sem, ↓reduceIte, Nat.reduceEqDiff, Nat.reduceAdd, Nat.reduceMul, Nat.reduceSub, Int.reduceToNat, Nat.reduceBEq]; decide, by simp (disch := first | (simp only [go_sem, Bool.and_self, eq_self]; done) | omega | (simp only [gl1, gl2]; omega)) only [go_sem, ↓reduceIte, Nat.reduceEqDiff, Nat.reduceAdd, Nat.reduceMul, Nat.reduceSub, Int.reduceToNat, Nat.reduceBEq], .nil, by simp (disch := first | (simp only [go_sem, Bool.and_self, eq_self]; done) | omega | (simp only [gl1, gl2]; omega)) only [go_sem, ↓reduceIte, Nat.reduceEqDiff, Nat.reduceAdd, Nat.reduceMul, Nat.reduceSub, Int.reduceToNat, Nat.reduceBEq], .inl ⟨rfl, rfl⟩⟩ ?_
      rintro i st g hi s16 ⟨s1, s5, s14, s15, hgn, g0, y, s6, oy⟩
      by_cases hin : i < n
      case neg =>
        have hie : i = n := by omega
        subst hie
        simp (disch := first | (simp only [go_sem, Bool.and_self, eq_self]; done) | omega | (simp only [gl1, gl2]; omega)) only [go_sem, ↓reduceIte, Nat.reduceEqDiff, Nat.reduceAdd, Nat.reduceMul, Nat.reduceSub, Int.reduceToNat, Nat.reduceBEq, s1, s5, s14, s15, s16, s6, hin]
        exact ⟨_, rfl, oy.own⟩
      have hib : i < b.length := by omega
      have hib' : (i : Int) < b.length := by omega
      have hip : i < pay.length := by omega
      have hip' : (i : Int) < pay.length := by omega
      have hfs := filtL_succ (fun i => decide ((nth b i).1 = nth pay i) && decide ((nth b i).2 = 1)) i
      have hfl := filtL_len (fun i => decide ((nth b i).1 = nth pay i) && decide ((nth b i).2 = 1)) i
      obtain ⟨ys, hys⟩ : ∃ ys, ys = stopsL n pay b i := ⟨_, rfl⟩
      have hys2 : filtL (fun i => decide ((nth b i).1 = nth pay i) && decide ((nth b i).2 = 1)) i = ys := hys.symm
      rw [← hys] at oy
      rw [hys2] at hfs hfl
      have hfs3 : stopsL n pay b (i + 1) = if (decide ((nth b i).1 = nth pay i) && decide ((nth b i).2 = 1)) = true then ys ++ [(i : Int)] else ys := hfs
      have n0 : ¬ 0 = g.nx := by omega
      have l0 : 0 < g.nx + 1 := by omega
      have l1 : g.nx < g.nx + 1 := by omega
      obtain ⟨g2, hg2⟩ : ∃ g2, g2 = (g.alloc (.cells false false [I 0, I 0])).put g.nx (some (.cells false false [I (nth b i).1, I (nth b i).2])) := ⟨_, rfl⟩
      have hg2n : g2.nx = g.nx + 1 := by rw [hg2]; rfl
      have hg20 : g2.bl 0 = some (.cells false false [LLI nx, LI pay, LI cost]) := by rw [hg2, put_bl, if_neg n0, alloc_bl, if_neg n0]; exact g0
      have hg2J : g2.bl g.nx = some (.cells false false [I (nth b i).1, I (nth b i).2]) := by rw [hg2, put_bl, if_pos rfl]
      have oy2 : OwnGe 1 (e1 I) 1 g2 y ys := oy.mono (by omega) fun id _ h3 => by
        rw [hg2, put_bl, if_neg (by omega), alloc_bl, if_neg (by omega)]
      cases hc : (decide ((nth b i).1 = nth pay i) && decide ((nth b i).2 = 1)) with
      | false =>
        rw [hc] at hfs3
        have hfs4 : stopsL n pay b (i + 1) = ys := hfs3
        simp (disch := first | (simp only [go_sem, Bool.and_self, eq_self]; done) | omega | (simp only [gl1, gl2]; omega)) only [go_sem, ↓reduceIte, Nat.reduceEqDiff, Nat.reduceAdd, Nat.reduceMul, Nat.reduceSub, Int.reduceToNat, Nat.reduceBEq, s1, s5, s14, s15, s16, s6, hin, hib, hib', hip, hip', hal2, ← hg2, hg2n, hg20, hg2J, n0, l0, l1, hc, List.drop_succ_cons]
        rw [ForK_normal]
        exact ⟨hin, by simp (disch := first | (simp only [go_sem, Bool.and_self, eq_self]; done) | omega | (simp only [gl1, gl2]; omega)) only [go_sem, ↓reduceIte, Nat.reduceEqDiff, Nat.reduceAdd, Nat.reduceMul, Nat.reduceSub, Int.reduceToNat, Nat.reduceBEq, s16], by simp (disch := first | (simp only [go_sem, Bool.and_self, eq_self]; done) | omega | (simp only [gl1, gl2]; omega)) only [go_sem, ↓reduceIte, Nat.reduceEqDiff, Nat.reduceAdd, Nat.reduceMul, Nat.reduceSub, Int.reduceToNat, Nat.reduceBEq, s1], by simp (disch := first | (simp only [go_sem, Bool.and_self, eq_self]; done) | omega | (simp only [gl1, gl2]; omega)) only [go_sem, ↓reduceIte, Nat.reduceEqDiff, Nat.reduceAdd, Nat.reduceMul, Nat.reduceSub, Int.reduceToNat, Nat.reduceBEq, s5], by simp (disch := first | (simp only [go_sem, Bool.and_self, eq_self]; done) | omega | (simp only [gl1, gl2]; omega)) only [go_sem, ↓reduceIte, Nat.reduceEqDiff, Nat.reduceAdd, Nat.reduceMul, Nat.reduceSub, Int.reduceToNat, Nat.reduceBEq, s14], by simp (disch := first | (simp only [go_sem, Bool.and_self, eq_self]; done) | omega | (simp only [gl1, gl2]; omega)) only [go_sem, ↓reduceIte, Nat.reduceEqDiff, Nat.reduceAdd, Nat.reduceMul, Nat.reduceSub, Int.reduceToNat, Nat.reduceBEq, s15], by omega, hg20, y, by simp (disch := first | (simp only [go_sem, Bool.and_self, eq_self]; done) | omega | (simp only [gl1, gl2]; omega)) only [go_sem, ↓reduceIte, Nat.reduceEqDiff, Nat.reduceAdd, Nat.reduceMul, Nat.reduceSub, Int.reduceToNat, Nat.reduceBEq, s6], by rw [hfs4]; exact oy2⟩
      | true =>
        rw [hc] at hfs3
        have hfs4 : stopsL n pay b (i + 1) = ys ++ [(i : Int)] := hfs3
        have hbs := fun h => bsB_one (P := Try.prog) 3 (I i) (I i) (I 0) h isz3 izero3 rfl rfl rfl rfl rfl rfl rfl
        have happ := app_one (P := Try.prog) oy2.own 3 8 (I 0) (i : Int) isz3 ibytes3 izero3 rfl (by omega) (by omega)
        have ln : 1 ≤ (appH g2 y ((ys ++ [(i : Int)]).flatMap (e1 I))).nx := by rw [appH_nx]; omega
        have lo : OwnGe 1 (e1 I) 1 (appH g2 y ((ys ++ [(i : Int)]).flatMap (e1 I))) (appV g2 (ys ++ [(i : Int)]).length 1) (stopsL n pay b (i + 1)) := by
          rw [hfs4]
          exact OwnGe.app _ (by omega) _
        have ll0 : (appH g2 y ((ys ++ [(i : Int)]).flatMap (e1 I))).bl 0 = some (.cells false false [LLI nx, LI pay, LI cost]) := by rw [oy2.low (by omega) (by omega)]; exact hg20
        generalize appH g2 y ((ys ++ [(i : Int)]).flatMap (e1 I)) = G at *
        generalize appV g2 (ys ++ [(i : Int)]).length 1 = u at *
        simp (disch := first | (simp only [go_sem, Bool.and_self, eq_self]; done) | omega | (simp only [gl1, gl2]; omega)) only [go_sem, ↓reduceIte, Nat.reduceEqDiff, Nat.reduceAdd, Nat.reduceMul, Nat.reduceSub, Int.reduceToNat, Nat.reduceBEq, s1, s5, s14, s15, s16, s6, hin, hib, hib', hip, hip', hal2, ← hg2, hg2n, hg20, hg2J, n0, l0, l1, hc, hbs, happ, List.drop_succ_cons]
        rw [ForK_normal]
        exact ⟨hin, by simp (disch := first | (simp only [go_sem, Bool.and_self, eq_self]; done) | omega | (simp only [gl1, gl2]; omega)) only [go_sem, ↓reduceIte, Nat.reduceEqDiff, Nat.reduceAdd, Nat.reduceMul, Nat.reduceSub, Int.reduceToNat, Nat.reduceBEq, s16], by simp (disch := first | (simp only [go_sem, Bool.and_self, eq_self]; done) | omega | (simp only [gl1, gl2]; omega)) only [go_sem, ↓reduceIte, Nat.reduceEqDiff, Nat.reduceAdd, Nat.reduceMul, Nat.reduceSub, Int.reduceToNat, Nat.reduceBEq, s1], by simp (disch := first | (simp only [go_sem, Bool.and_self, eq_self]; done) | omega | (simp only [gl1, gl2]; omega)) only [go_sem, ↓reduceIte, Nat.reduceEqDiff, Nat.reduceAdd, Nat.reduceMul, Nat.reduceSub, Int.reduceToNat, Nat.reduceBEq, s5], by simp (disch := first | (simp only [go_sem, Bool.and_self, eq_self]; done) | omega | (simp only [gl1, gl2]; omega)) only [go_sem, ↓reduceIte, Nat.reduceEqDiff, Nat.reduceAdd, Nat.reduceMul, Nat.reduceSub, Int.reduceToNat, Nat.reduceBEq, s14], by simp (disch := first | (simp only [go_sem, Bool.and_self, eq_self]; done) | omega | (simp only [gl1, gl2]; omega)) only [go_sem, ↓reduceIte, Nat.reduceEqDiff, Nat.reduceAdd, Nat.reduceMul, Nat.reduceSub, Int.reduceToNat, Nat.reduceBEq, s15], ln, ll0, _, by simp (disch := first | (simp only [go_sem, Bool.and_self, eq_self]; done) | omega | (simp only [gl1, gl2]; omega)) only [go_sem, ↓reduceIte, Nat.reduceEqDiff, Nat.reduceAdd, Nat.reduceMul, Nat.reduceSub, Int.reduceToNat, Nat.reduceBEq], lo⟩
    · rintro st h ⟨s5, y, s6, oy⟩
      obtain ⟨g, hsy, _⟩ := sealA_Own oy
      simp (disch := first | (simp only [go_sem, Bool.and_self, eq_self]; done) | omega | (simp only [gl1, gl2]; omega)) only [go_sem, ↓reduceIte, Nat.reduceEqDiff, Nat.reduceAdd, Nat.reduceMul, Nat.reduceSub, Int.reduceToNat, Nat.reduceBEq, s5, s6, hsy]
end Go.Proofs.Ytgamcclfdkpcgaa

set_option linter.unusedVariables false
set_option linter.unusedSimpArgs false
set_option maxRecDepth 10000
namespace Go.Proofs.Ytgamcclfdkpcgaa
open Go Go.Am

variable {h h' : Hp} {K : AV → Hp → Prop}

theorem f30_nil (p c : List Int) : Con Try.prog cfg 30 [.agg [.nil, LI p, LI c]] (.bool false) := by
  have hal : ∀ g : Hp, allocB g (some (.agg [.nil, LI p, LI c])) = some (.ptr g.nx 0, g.alloc (.cells false false [.nil, LI p, LI c])) := fun g => allocB_agg _ rfl
  have h01 : (0 : Int) < 1 := by decide
  have hl : ∀ h lim, lenB (some (.slice 23)) .nil h lim = some (I 0) := fun _ _ => rfl
  refine Con_intro Try.func30 rfl ok30 (Nat.le_of_ble_eq_true rfl) rfl ?_
  simp only [Try.f30, Option.getD_some, initSt1]
  simp (disch := first | (simp only [go_sem, Bool.and_self, eq_self]; done) | omega | (simp only [gl1, gl2]; omega)) only [go_sem, ↓reduceIte, Nat.reduceEqDiff, Nat.reduceAdd, Nat.reduceMul, Nat.reduceSub, Int.reduceToNat, Nat.reduceBEq, hal, hl, h01]
theorem f30_con (nx : List (List Int)) (pay cost : List Int) (hk : okN nx pay cost) : Con Try.prog cfg 30 [chA nx pay cost] (.bool (chB nx pay cost)) := by
  have ml : maxLen = 9223372036854775807 := by decide
  have hkn := hk.n
  have hkp := hk.p
  have hkc := hk.c
  have hal : ∀ g : Hp, allocB g (some (chA nx pay cost)) = some (.ptr g.nx 0, g.alloc (.cells false false [LLI nx, LI pay, LI cost])) := fun g => allocB_agg _ rfl
  obtain ⟨b, hb⟩ : ∃ b, b = chB nx pay cost := ⟨_, rfl⟩
  rw [← hb]
  by_cases e1 : (nx.length : Int) < 1
  · have hr : b = false := by rw [hb, chB, show inB nx.length 1 6 = false from by simp [inB]; omega]; rfl
    refine Con_intro Try.func30 rfl ok30 (Nat.le_of_ble_eq_true rfl) rfl ?_
    simp only [Try.f30, Option.getD_some, initSt1]
    simp (disch := first | (simp only [go_sem, Bool.and_self, eq_self]; done) | omega | (simp only [gl1, gl2]; omega)) only [go_sem, ↓reduceIte, Nat.reduceEqDiff, Nat.reduceAdd, Nat.reduceMul, Nat.reduceSub, Int.reduceToNat, Nat.reduceBEq, hal, e1, hr]
  by_cases e2 : 6 < (nx.length : Int)
  · have hr : b = false := by rw [hb, chB, show inB nx.length 1 6 = false from by simp [inB]; omega]; rfl
    refine Con_intro Try.func30 rfl ok30 (Nat.le_of_ble_eq_true rfl) rfl ?_
    simp only [Try.f30, Option.getD_some, initSt1]
    simp (disch := first | (simp only [go_sem, Bool.and_self, eq_self]; done) | omega | (simp only [gl1, gl2]; omega)) only [go_sem, ↓reduceIte, Nat.reduceEqDiff, Nat.reduceAdd, Nat.reduceMul, Nat.reduceSub, Int.reduceToNat, Nat.reduceBEq, hal, e1, e2, hr]
  by_cases c2 : pay.length = nx.length
  case neg =>
    have hr : b = false := by rw [hb, chB, decide_eq_false c2]; simp
    have c2' : ¬ (pay.length : Int) = nx.length := by omega
    refine Con_intro Try.func30 rfl ok30 (Nat.le_of_ble_eq_true rfl) rfl ?_
    simp only [Try.f30, Option.getD_some, initSt1]
    simp (disch := first | (simp only [go_sem, Bool.and_self, eq_self]; done) | omega | (simp only [gl1, gl2]; omega)) only [go_sem, ↓reduceIte, Nat.reduceEqDiff, Nat.reduceAdd, Nat.reduceMul, Nat.reduceSub, Int.reduceToNat, Nat.reduceBEq, hal, e1, e2, c2, hr, List.drop_succ_cons]
  by_cases c3 : cost.length = nx.length
  case neg =>
    have hr : b = false := by rw [hb, chB, decide_eq_false c3]; simp
    have c3' : ¬ (cost.length : Int) = nx.length := by omega
    refine Con_intro Try.func30 rfl ok30 (Nat.le_of_ble_eq_true rfl) rfl ?_
    simp only [Try.f30, Option.getD_some, initSt1]
    simp (disch := first | (simp only [go_sem, Bool.and_self, eq_self]; done) | omega | (simp only [gl1, gl2]; omega)) only [go_sem, ↓reduceIte, Nat.reduceEqDiff, Nat.reduceAdd, Nat.reduceMul, Nat.reduceSub, Int.reduceToNat, Nat.reduceBEq, hal, e1, e2, c2, c3, hr, eq_self, decide_true, Bool.not_true, List.drop_succ_cons]
  obtain ⟨n, hn⟩ : ∃ n, n = nx.length := ⟨_, rfl⟩
  have hno : ∀ i, i < n → stB nx pay cost i = false → b = false := fun i hi h => by rw [hb]; exact st_no (by omega) h
  have hyes : (∀ i, i < n → stB nx pay cost i = true) → b = true := fun h => by
    rw [hb, chB, c2, c3, allR fun i hi => h i (by omega), show inB nx.length 1 6 = true from by simp [inB]; omega]; simp
  have e1n := e1
  have e2n := e2
  have c2n := c2
  have c3n := c3
  rw [← hn] at e1n e2n c2n c3n
  refine Con_intro Try.func30 rfl ok30 (Nat.le_of_ble_eq_true rfl) rfl ?_
  simp only [Try.f30, Option.getD_some, initSt1]
  simp (disch := first | (simp only [go_sem, Bool.and_self, eq_self]; done) | omega | (simp only [gl1, gl2]; omega)) only [go_sem, ↓reduceIte, Nat.reduceEqDiff, Nat.reduceAdd, Nat.reduceMul, Nat.reduceSub, Int.reduceToNat, Nat.reduceBEq, hal, e1n, e2n, c2n, c3n, eq_self, decide_true, Bool.not_true, List.drop_succ_cons, ← hn]
  refine WP_for 4 n (fun i st h => st 1 = .ptr 0 0 ∧ st 3 = I n ∧ h.bl 0 = some (.cells false false [LLI nx, LI pay, LI cost]) ∧ ∀ k, k < i → stB nx pay cost k = true) (by simp (disch := first | (simp only [go_sem, Bool.and_self, eq_self]; done) | omega | (simp only [gl1, gl2]; omega)) only [go_sem, ↓reduceIte, Nat.reduceEqDiff, Nat.reduceAdd, Nat.reduceMul, Nat.reduceSub, Int.reduceToNat, Nat.reduceBEq]) ⟨by simp (disch := first | (simp only [go_sem, Bool.and_self, eq_self]; done) | omega | (simp only [gl1, gl2]; omega)) only [go_sem, ↓reduceIte, Nat.reduceEqDiff, Nat.reduceAdd, Nat.reduceMul, Nat.reduceSub, Int.reduceToNat, Nat.reduceBEq], by simp (disch := first | (simp only [go_sem, Bool.and_self, eq_self]; done) | omega | (simp only [gl1, gl2]; omega)) only [go_sem, ↓reduceIte, Nat.reduceEqDiff, Nat.reduceAdd, Nat.reduceMul, Nat.reduceSub, Int.reduceToNat, Nat.reduceBEq], by simp (disch := first | (simp only [go_sem, Bool.and_self, eq_self]; done) | omega | (simp only [gl1, gl2]; omega)) only [go_sem, ↓reduceIte, Nat.reduceEqDiff, Nat.reduceAdd, Nat.reduceMul, Nat.reduceSub, Int.reduceToNat, Nat.reduceBEq], by omega⟩ ?_
  rintro i st h hi s4 ⟨s1, s3, b0, hall⟩
  by_cases hlt : i < n
  case neg =>
    have hr := hyes fun k hk => hall k (by omega)
    simp (disch := first | (simp only [go_sem, Bool.and_self, eq_self]; done) | omega | (simp only [gl1, gl2]; omega)) only [go_sem, ↓reduceIte, Nat.reduceEqDiff, Nat.reduceAdd, Nat.reduceMul, Nat.reduceSub, Int.reduceToNat, Nat.reduceBEq, s1, s3, s4, hlt, hr]
  have hi1 : i < nx.length := by omega
  have hi1' : (i : Int) < nx.length := by omega
  have hip : i < pay.length := by omega
  have hip' : (i : Int) < pay.length := by omega
  have hic : i < cost.length := by omega
  have hic' : (i : Int) < cost.length := by omega
  have hnoi := hno i hlt
  have hrl := hk.row _ (nth_mem hi1)
  obtain ⟨r, hr⟩ : ∃ r, r = nth nx i := ⟨_, rfl⟩
  have hrr : nth nx i = r := hr.symm
  rw [hrr] at hrl
  have hst : stB nx pay cost i = (decide (r.length = n) && (inB (nth pay i) 0 1000 && (inB (nth cost i) 0 100 && rowB r))) := by rw [stB, hrr, hn]
  by_cases d1 : r.length = n
  case neg =>
    have hb := hnoi (by rw [hst, decide_eq_false d1]; rfl)
    have d1' : ¬ (r.length : Int) = n := by omega
    simp (disch := first | (simp only [go_sem, Bool.and_self, eq_self]; done) | omega | (simp only [gl1, gl2]; omega)) only [go_sem, ↓reduceIte, Nat.reduceEqDiff, Nat.reduceAdd, Nat.reduceMul, Nat.reduceSub, Int.reduceToNat, Nat.reduceBEq, s1, s3, s4, hlt, hi1, hi1', hrr, d1, d1', b0, hb]
  have d1' : (r.length : Int) = n := by omega
  have hin : ∀ {x lo hi : Int}, ¬ (lo ≤ x ∧ x ≤ hi) → inB x lo hi = false := fun h => by
    rw [inB, Bool.and_eq_false_iff, decide_eq_false_iff_not, decide_eq_false_iff_not]; omega
  by_cases d2 : nth pay i < 0
  · have hb := hnoi (by rw [hst, hin (x := nth pay i) (by omega)]; simp)
    simp (disch := first | (simp only [go_sem, Bool.and_self, eq_self]; done) | omega | (simp only [gl1, gl2]; omega)) only [go_sem, ↓reduceIte, Nat.reduceEqDiff, Nat.reduceAdd, Nat.reduceMul, Nat.reduceSub, Int.reduceToNat, Nat.reduceBEq, s1, s3, s4, hlt, hi1, hi1', hip, hip', hrr, d1, d1', d2, b0, hb, eq_self, decide_true, Bool.not_true, List.drop_succ_cons]
  by_cases d3 : 1000 < nth pay i
  · have hb := hnoi (by rw [hst, hin (x := nth pay i) (by omega)]; simp)
    simp (disch := first | (simp only [go_sem, Bool.and_self, eq_self]; done) | omega | (simp only [gl1, gl2]; omega)) only [go_sem, ↓reduceIte, Nat.reduceEqDiff, Nat.reduceAdd, Nat.reduceMul, Nat.reduceSub, Int.reduceToNat, Nat.reduceBEq, s1, s3, s4, hlt, hi1, hi1', hip, hip', hrr, d1, d1', d2, d3, b0, hb, eq_self, decide_true, Bool.not_true, List.drop_succ_cons]
  by_cases d4 : nth cost i < 0
  · have hb := hnoi (by rw [hst, hin (x := nth cost i) (by omega)]; simp)
    simp (disch := first | (simp only [go_sem, Bool.and_self, eq_self]; done) | omega | (simp only [gl1, gl2]; omega)) only [go_sem, ↓reduceIte, Nat.reduceEqDiff, Nat.reduceAdd, Nat.reduceMul, Nat.reduceSub, Int.reduceToNat, Nat.reduceBEq, s1, s3, s4, hlt, hi1, hi1', hip, hip', hic, hic', hrr, d1, d1', d2, d3, d4, b0, hb, eq_self, decide_true, Bool.not_true, List.drop_succ_cons]
  by_cases d5 : 100 < nth cost i
  · have hb := hnoi (by rw [hst, hin (x := nth cost i) (by omega)]; simp)
    simp (disch := first | (simp only [go_sem, Bool.and_self, eq_self]; done) | omega | (simp only [gl1, gl2]; omega)) only [go_sem, ↓reduceIte, Nat.reduceEqDiff, Nat.reduceAdd, Nat.reduceMul, Nat.reduceSub, Int.reduceToNat, Nat.reduceBEq, s1, s3, s4, hlt, hi1, hi1', hip, hip', hic, hic', hrr, d1, d1', d2, d3, d4, d5, b0, hb, eq_self, decide_true, Bool.not_true, List.drop_succ_cons]
  have hst2 : stB nx pay cost i = rowB r := by
    rw [hst, decide_eq_true d1, show inB (nth pay i) 0 1000 = true from by simp [inB]; omega, show inB (nth cost i) 0 100 = true from by simp [inB]; omega]; rfl
  simp (disch := first | (simp only [go_sem, Bool.and_self, eq_self]; done) | omega | (simp only [gl1, gl2]; omega)) only [go_sem, ↓reduceIte, Nat.reduceEqDiff, Nat.reduceAdd, Nat.reduceMul, Nat.reduceSub, Int.reduceToNat, Nat.reduceBEq, s1, s3, s4, hlt, hi1, hi1', hip, hip', hic, hic', hrr, d1, d1', d2, d3, d4, d5, b0, eq_self, decide_true, Bool.not_true, List.drop_succ_cons]
  refine WP_cut (fun st h => st 1 = .ptr 0 0 ∧ st 3 = I n ∧ st 4 = I i ∧ st 5 = I (sumN (fun j => nth r j) n) ∧ h.bl 0 = some (.cells false false [LLI nx, LI pay, LI cost]) ∧ ∀ k, k < n → inB (nth r k) 0 4 = true) ?_ ?_
  · refine WP_for 6 n (fun j st h => st 1 = .ptr 0 0 ∧ st 3 = I n ∧ st 4 = I i ∧ st 5 = I (sumN (fun j => nth r j) j) ∧ h.bl 0 = some (.cells false false [LLI nx, LI pay, LI cost]) ∧ ∀ k, k < j → inB (nth r k) 0 4 = true) (by simp (disch := first | (simp only [go_sem, Bool.and_self, eq_self]; done) | omega | (simp only [gl1, gl2]; omega)) only [go_sem, ↓reduceIte, Nat.reduceEqDiff, Nat.reduceAdd, Nat.reduceMul, Nat.reduceSub, Int.reduceToNat, Nat.reduceBEq])
      ⟨by simp (disch := first | (simp only [go_sem, Bool.and_self, eq_self]; done) | omega | (simp only [gl1, gl2]; omega)) only [go_sem, ↓reduceIte, Nat.reduceEqDiff, Nat.reduceAdd, Nat.reduceMul, Nat.reduceSub, Int.reduceToNat, Nat.reduceBEq, s1], by simp (disch := first | (simp only [go_sem, Bool.and_self, eq_self]; done) | omega | (simp only [gl1, gl2]; omega)) only [go_sem, ↓reduceIte, Nat.reduceEqDiff, Nat.reduceAdd, Nat.reduceMul, Nat.reduceSub, Int.reduceToNat, Nat.reduceBEq, s3], by simp (disch := first | (simp only [go_sem, Bool.and_self, eq_self]; done) | omega | (simp only [gl1, gl2]; omega)) only [go_sem, ↓reduceIte, Nat.reduceEqDiff, Nat.reduceAdd, Nat.reduceMul, Nat.reduceSub, Int.reduceToNat, Nat.reduceBEq, s4], by simp (disch := first | (simp only [go_sem, Bool.and_self, eq_self]; done) | omega | (simp only [gl1, gl2]; omega)) only [go_sem, ↓reduceIte, Nat.reduceEqDiff, Nat.reduceAdd, Nat.reduceMul, Nat.reduceSub, Int.reduceToNat, Nat.reduceBEq]; rfl, by simp (disch := first | (simp only [go_sem, Bool.and_self, eq_self]; done) | omega | (simp only [gl1, gl2]; omega)) only [go_sem, ↓reduceIte, Nat.reduceEqDiff, Nat.reduceAdd, Nat.reduceMul, Nat.reduceSub, Int.reduceToNat, Nat.reduceBEq, b0], by omega⟩ ?_
    rintro j st h hj s6 ⟨s1, s3, s4, s5, b0, hpj⟩
    by_cases hjn : j < n
    case neg =>
      have hje : j = n := by omega
      subst hje
      simp (disch := first | (simp only [go_sem, Bool.and_self, eq_self]; done) | omega | (simp only [gl1, gl2]; omega)) only [go_sem, ↓reduceIte, Nat.reduceEqDiff, Nat.reduceAdd, Nat.reduceMul, Nat.reduceSub, Int.reduceToNat, Nat.reduceBEq, s1, s3, s4, s5, s6, hjn]
      exact ⟨b0, hpj⟩
    have hjr : j < r.length := by omega
    have hjr' : (j : Int) < r.length := by omega
    by_cases f1 : nth r j < 0
    · have hb := hnoi (by rw [hst2, rowB, notR hjr (hin (x := nth r j) (by omega)), Bool.false_and])
      simp (disch := first | (simp only [go_sem, Bool.and_self, eq_self]; done) | omega | (simp only [gl1, gl2]; omega)) only [go_sem, ↓reduceIte, Nat.reduceEqDiff, Nat.reduceAdd, Nat.reduceMul, Nat.reduceSub, Int.reduceToNat, Nat.reduceBEq, s1, s3, s4, s5, s6, hi1, hi1', hrr, hjn, hjr, hjr', b0, f1, hb]
    by_cases f2 : 4 < nth r j
    · have hb := hnoi (by rw [hst2, rowB, notR hjr (hin (x := nth r j) (by omega)), Bool.false_and])
      simp (disch := first | (simp only [go_sem, Bool.and_self, eq_self]; done) | omega | (simp only [gl1, gl2]; omega)) only [go_sem, ↓reduceIte, Nat.reduceEqDiff, Nat.reduceAdd, Nat.reduceMul, Nat.reduceSub, Int.reduceToNat, Nat.reduceBEq, s1, s3, s4, s5, s6, hi1, hi1', hrr, hjn, hjr, hjr', b0, f1, f2, hb]
    have hsb := sum4 hpj
    have hs1 : sumN (fun k => nth r k) (j + 1) = sumN (fun k => nth r k) j + nth r j := rfl
    simp (disch := first | (simp only [go_sem, Bool.and_self, eq_self]; done) | omega | (simp only [gl1, gl2]; omega)) only [go_sem, ↓reduceIte, Nat.reduceEqDiff, Nat.reduceAdd, Nat.reduceMul, Nat.reduceSub, Int.reduceToNat, Nat.reduceBEq, s1, s3, s4, s5, s6, hi1, hi1', hrr, hjn, hjr, hjr', b0, f1, f2]
    rw [ForK_normal]
    refine ⟨hjn, by simp (disch := first | (simp only [go_sem, Bool.and_self, eq_self]; done) | omega | (simp only [gl1, gl2]; omega)) only [go_sem, ↓reduceIte, Nat.reduceEqDiff, Nat.reduceAdd, Nat.reduceMul, Nat.reduceSub, Int.reduceToNat, Nat.reduceBEq, s6], by simp (disch := first | (simp only [go_sem, Bool.and_self, eq_self]; done) | omega | (simp only [gl1, gl2]; omega)) only [go_sem, ↓reduceIte, Nat.reduceEqDiff, Nat.reduceAdd, Nat.reduceMul, Nat.reduceSub, Int.reduceToNat, Nat.reduceBEq, s1], by simp (disch := first | (simp only [go_sem, Bool.and_self, eq_self]; done) | omega | (simp only [gl1, gl2]; omega)) only [go_sem, ↓reduceIte, Nat.reduceEqDiff, Nat.reduceAdd, Nat.reduceMul, Nat.reduceSub, Int.reduceToNat, Nat.reduceBEq, s3], by simp (disch := first | (simp only [go_sem, Bool.and_self, eq_self]; done) | omega | (simp only [gl1, gl2]; omega)) only [go_sem, ↓reduceIte, Nat.reduceEqDiff, Nat.reduceAdd, Nat.reduceMul, Nat.reduceSub, Int.reduceToNat, Nat.reduceBEq, s4], by (rw [hs1]; simp (disch := first | (simp only [go_sem, Bool.and_self, eq_self]; done) | omega | (simp only [gl1, gl2]; omega)) only [go_sem, ↓reduceIte, Nat.reduceEqDiff, Nat.reduceAdd, Nat.reduceMul, Nat.reduceSub, Int.reduceToNat, Nat.reduceBEq]), b0, fun k hk => ?_⟩
    by_cases hkj : k = j
    · subst hkj; simp [inB]; omega
    · exact hpj k (by omega)
  · rintro st h ⟨s1, s3, s4, s5, b0, hpj⟩
    have hrb : rowB r = decide (sumN (fun j => nth r j) n ≤ 4) := by rw [rowB, d1, allR hpj, Bool.true_and]
    by_cases d5 : 4 < sumN (fun j => nth r j) n
    · have hb := hnoi (by rw [hst2, hrb]; exact decide_eq_false (by omega))
      simp (disch := first | (simp only [go_sem, Bool.and_self, eq_self]; done) | omega | (simp only [gl1, gl2]; omega)) only [go_sem, ↓reduceIte, Nat.reduceEqDiff, Nat.reduceAdd, Nat.reduceMul, Nat.reduceSub, Int.reduceToNat, Nat.reduceBEq, s1, s3, s4, s5, d5, hb]
    · simp (disch := first | (simp only [go_sem, Bool.and_self, eq_self]; done) | omega | (simp only [gl1, gl2]; omega)) only [go_sem, ↓reduceIte, Nat.reduceEqDiff, Nat.reduceAdd, Nat.reduceMul, Nat.reduceSub, Int.reduceToNat, Nat.reduceBEq, s1, s3, s4, s5, d5]
      rw [ForK_normal]
      refine ⟨hlt, by simp (disch := first | (simp only [go_sem, Bool.and_self, eq_self]; done) | omega | (simp only [gl1, gl2]; omega)) only [go_sem, ↓reduceIte, Nat.reduceEqDiff, Nat.reduceAdd, Nat.reduceMul, Nat.reduceSub, Int.reduceToNat, Nat.reduceBEq, s4], by simp (disch := first | (simp only [go_sem, Bool.and_self, eq_self]; done) | omega | (simp only [gl1, gl2]; omega)) only [go_sem, ↓reduceIte, Nat.reduceEqDiff, Nat.reduceAdd, Nat.reduceMul, Nat.reduceSub, Int.reduceToNat, Nat.reduceBEq, s1], by simp (disch := first | (simp only [go_sem, Bool.and_self, eq_self]; done) | omega | (simp only [gl1, gl2]; omega)) only [go_sem, ↓reduceIte, Nat.reduceEqDiff, Nat.reduceAdd, Nat.reduceMul, Nat.reduceSub, Int.reduceToNat, Nat.reduceBEq, s3], b0, fun k hk => ?_⟩
      by_cases hki : k = i
      · subst hki; rw [hst2, hrb]; exact decide_eq_true (by omega)
      · exact hall k (by omega)
end Go.Proofs.Ytgamcclfdkpcgaa

set_option linter.unusedVariables false
set_option linter.unusedSimpArgs false
set_option maxRecDepth 10000
namespace Go.Proofs.Ytgamcclfdkpcgaa
open Go Go.Am Go.RowKit Go.ChangeShapes Go.WideShapes

/-- A struct of three fields, each of one cell. -/
theorem Rd.three {P : Program} {t : TypeId} {α β γ : Type} {ga : α → Prop} {gb : β → Prop} {gc : γ → Prop} {fa : α → AV} {fb : β → AV} {fc : γ → AV} {f0 f1 f2 : Field} (ht : P.underlying t = some (.struct #[f0, f1, f2]))
    (h0 : f0.offset = 0) (h1 : f1.offset = 1) (h2 : f2.offset = 2) (ca : P.cellsOf f0.type = 1) (cb : P.cellsOf f1.type = 1) (cc : P.cellsOf f2.type = 1) (ct : P.cellsOf t = 3)
    (ha : Rd P f0.type ga (e1 fa)) (hb : Rd P f1.type gb (e1 fb)) (hc : Rd P f2.type gc (e1 fc)) :
    Rd P t (fun x : α × β × γ => ga x.1 ∧ gb x.2.1 ∧ gc x.2.2) (fun x => [fa x.1, fb x.2.1, fc x.2.2]) := by
  intro H enc w held fuel cs x h
  obtain ⟨ys, m, _, _, hl, hyl, hi⟩ := DataW.trod_struct ht h
  have i0 := hi 0 f0 rfl
  have i1 := hi 1 f1 rfl
  have i2 := hi 2 f2 rfl
  have e0 : (#[f0, f1, f2] : Array Field).size = 3 := rfl
  rw [e0] at hyl
  rw [List.getElem?_eq_getElem (by omega)] at i0 i1 i2
  obtain ⟨a, ga', ra⟩ := ha i0
  obtain ⟨b, gb', rb⟩ := hb i1
  obtain ⟨c, gc', rc⟩ := hc i2
  rw [h0, ca] at ra
  rw [h1, cb] at rb
  rw [h2, cc] at rc
  refine ⟨(a, b, c), ⟨ga', gb', gc'⟩, ?_, fun j u hu => ?_⟩
  · show 3 = _; omega
  · match j with
    | 0 =>
      cases hu
      obtain ⟨g1, v, g2, g3⟩ := ra.2 0 _ rfl
      refine ⟨g1, v, ?_, g3⟩
      rw [List.drop_zero, List.getElem?_take, if_pos (by omega)] at g2
      exact g2
    | 1 =>
      cases hu
      obtain ⟨g1, v, g2, g3⟩ := rb.2 0 _ rfl
      refine ⟨g1, v, ?_, g3⟩
      rw [List.getElem?_take, if_pos (by omega), List.getElem?_drop] at g2
      exact g2
    | 2 =>
      cases hu
      obtain ⟨g1, v, g2, g3⟩ := rc.2 0 _ rfl
      refine ⟨g1, v, ?_, g3⟩
      rw [List.getElem?_take, if_pos (by omega), List.getElem?_drop] at g2
      exact g2
    | j + 3 => cases hu
theorem rdI : Rd Try.prog 3 Go.Am.ok64 (e1 I) := Rd.int und3
theorem rdLI : Rd Try.prog 23 (fun xs : List Int => (∀ x ∈ xs, Go.Am.ok64 x) ∧ xs.length ≤ maxLen) (e1 LI) := Rd.sl und23 (by kernel_rfl) rdI (fun _ => rfl) (by decide)
theorem rdLLI : Rd Try.prog 22 (fun xs : List (List Int) => (∀ x ∈ xs, (∀ y ∈ x, Go.Am.ok64 y) ∧ x.length ≤ maxLen) ∧ xs.length ≤ maxLen) (e1 LLI) := Rd.sl und22 (by kernel_rfl) rdLI (fun _ => rfl) (by decide)
theorem rdChn : Rd Try.prog 25 (fun x : List (List Int) × List Int × List Int => ((∀ l ∈ x.1, (∀ y ∈ l, Go.Am.ok64 y) ∧ l.length ≤ maxLen) ∧ x.1.length ≤ maxLen) ∧ ((∀ y ∈ x.2.1, Go.Am.ok64 y) ∧ x.2.1.length ≤ maxLen) ∧ ((∀ y ∈ x.2.2, Go.Am.ok64 y) ∧ x.2.2.length ≤ maxLen)) (fun x => [LLI x.1, LI x.2.1, LI x.2.2]) :=
  Rd.three und25 rfl rfl rfl (by kernel_rfl) (by kernel_rfl) (by kernel_rfl) (by kernel_rfl) rdLLI rdLI rdLI
theorem rdFr : Rd Try.prog 37 (fun q : Int × Int => Go.Am.ok64 q.1 ∧ Go.Am.ok64 q.2) eP :=
  Rd.two und37 rfl rfl (by kernel_rfl) (by kernel_rfl) (by kernel_rfl) rdI rdI (fun _ => rfl) (fun _ => rfl)
theorem rdLF : Rd Try.prog 28 (fun fs : List (Int × Int) => (∀ q ∈ fs, Go.Am.ok64 q.1 ∧ Go.Am.ok64 q.2) ∧ fs.length ≤ maxLen) (e1 LP) := Rd.sl (sz := 2) und28 (by kernel_rfl) rdFr (fun _ => rfl) (by decide)
theorem okN.of {nx : List (List Int)} {pay cost : List Int} (h : ((∀ l ∈ nx, (∀ y ∈ l, Go.Am.ok64 y) ∧ l.length ≤ maxLen) ∧ nx.length ≤ maxLen) ∧ ((∀ y ∈ pay, Go.Am.ok64 y) ∧ pay.length ≤ maxLen) ∧ ((∀ y ∈ cost, Go.Am.ok64 y) ∧ cost.length ≤ maxLen)) : okN nx pay cost :=
  ⟨h.1.2, fun l hl => (h.1.1 l hl).2, h.2.1.2, h.2.2.2⟩
theorem nxM_len (nx : List (List Int)) : (nxM nx).length ≤ 8 := by simp [nxM]; omega
theorem listM_len (l : List Int) : (listM l).length ≤ 8 := by rw [listM, List.length_take]; omega
theorem okN.copy (nx : List (List Int)) (pay cost : List Int) : okN (nxM nx) (listM pay) (listM cost) := by
  have ml : maxLen = 9223372036854775807 := by decide
  have h1 := nxM_len nx
  have h2 := listM_len pay
  have h3 := listM_len cost
  refine ⟨by omega, fun l hl => ?_, by omega, by omega⟩
  obtain ⟨i, _, rfl⟩ := List.mem_map.1 hl
  have := listM_len (nth nx i)
  omega
end Go.Proofs.Ytgamcclfdkpcgaa

set_option linter.unusedVariables false
set_option linter.unusedSimpArgs false
set_option maxRecDepth 10000
namespace Go.Proofs.Ytgamcclfdkpcgaa
open Go Go.Am

variable {h h' : Hp} {K : AV → Hp → Prop}

theorem rdP_gcd {a b : Int} (hb : 0 < b) : gcdI (rdP a b).1 (rdP a b).2 = 1 := by
  have h : 0 < Int.gcd a b := Int.gcd_pos_of_ne_zero_right _ (by omega)
  have := Int.gcd_ediv_gcd_ediv_gcd h
  rw [rdP_pos hb]
  unfold gcdI
  rw [this]; rfl
theorem best_vb {nx : List (List Int)} {pay cost : List Int} (C : okC nx pay cost) : (bestL nx pay cost).all isVB = true := by
  obtain ⟨x, _, hs, _, he⟩ := best_is C
  have hv := (vals_of C.ch hs (by have := C.n1; omega)).pos
  refine all_nth' fun i hi => ?_
  rw [bestL_len C] at hi
  rw [he]
  have hb := val_den C hs hi
  have hg : gcdI (nth (valL nx pay cost x) i).1 (nth (valL nx pay cost x) i).2 = 1 := by rw [valL_nth pay cost x hi]; exact rdP_gcd hv
  rw [isVB, hg]
  simp only [inB, decide_true, Bool.and_true, Bool.and_eq_true, decide_eq_true_eq]
  omega
theorem stops_len (n : Nat) (pay : List Int) (b : List (Int × Int)) : (stopsL n pay b n).length ≤ n := filtL_len _ _
theorem f13_con (nx : List (List Int)) (pay cost : List Int) (hk : okN nx pay cost) : Con Try.prog cfgX 13 [chA nx pay cost] (.bool true) := by
  have ml : maxLen = 9223372036854775807 := by decide
  have hal : ∀ (g : Hp) nx pay cost, allocB g (some (chA nx pay cost)) = some (.ptr g.nx 0, g.alloc (.cells false false [LLI nx, LI pay, LI cost])) := fun g _ _ _ => allocB_agg _ rfl
  have hse : ∀ (h : Hp) nx pay cost, sealA h (chA nx pay cost) = some (chA nx pay cost, h) := fun h _ _ _ => sealA_agg _ (by simp only [AV.pureL, pure_L, Bool.and_true])
  have k17 := fun h h' K => ConW_any (h := h) (h' := h') (K := K) (liftX (by decide) (f17_con nx pay cost hk)) (by unfold chV; split <;> rfl)
  have hk2 := okN.copy nx pay cost
  generalize nxM nx = nx2 at *
  generalize listM pay = pay2 at *
  generalize listM cost = cost2 at *
  have hi3 : ∀ (h : Hp) (a : List (Int × Int)) (l : List Int) (e : Int), importR h (.tup [LP a, LI l, I e]) = (.tup [LP a, LI l, I e], h) := fun _ _ _ _ => rfl
  have hi2 : ∀ (h : Hp) (a : List (Int × Int)) (l : List Int), importR h (.tup [LP a, LI l]) = (.tup [LP a, LI l], h) := fun _ _ _ => rfl
  have z0 : ((0 : Nat) : Int) = 0 := rfl
  by_cases hn : nx2 = []
  · have hv : chV nx2 pay2 cost2 = .agg [.nil, LI pay2, LI cost2] := by rw [chV, if_pos hn]
    rw [hv] at k17
    have hi1 : ∀ h : Hp, importR h (.agg [.nil, LI pay2, LI cost2]) = (.agg [.nil, LI pay2, LI cost2], h) := fun _ => rfl
    have hse1 : ∀ h : Hp, sealA h (.agg [.nil, LI pay2, LI cost2]) = some (.agg [.nil, LI pay2, LI cost2], h) := fun h => sealA_agg _ (by simp only [AV.pureL, pure_L, Bool.and_true]; rfl)
    have hst : ∀ (g : Hp) (id : Nat), storeC g id 0 3 (some (.cells false false [.nil, .nil, .nil])) [.nil, LI pay2, LI cost2] = some (.skp, g.put id (some (.cells false false [.nil, LI pay2, LI cost2]))) := fun g id => by simp [storeC, setL, AV.isCell]
    have k16 := fun h h' K => ConW_any (h := h) (h' := h') (K := K) (f16_nil pay2 cost2) rfl
    have k30 := fun h h' K => ConW_num (h := h) (h' := h') (K := K) (liftX (by decide) (f30_nil pay2 cost2)) rfl
    have k46 := fun h h' K => ConW_num (h := h) (h' := h') (K := K) (f46_nil pay2 cost2 []) rfl
    refine Con_intro Try.func13 rfl okX13 (Nat.le_of_ble_eq_true rfl) rfl ?_
    simp only [Try.f13, Option.getD_some, initSt1]
    simp (disch := first | (simp only [go_sem, Bool.and_self, eq_self]; done) | omega | (simp only [gl1, gl2]; omega)) only [go_sem, ↓reduceIte, Nat.reduceEqDiff, Nat.reduceAdd, Nat.reduceMul, Nat.reduceSub, Int.reduceToNat, Nat.reduceBEq, hal, hse, k17, hi1, hse1, hst, k16, hi3, k30, k46, z0]
  · have hv : chV nx2 pay2 cost2 = chA nx2 pay2 cost2 := by rw [chV, if_neg hn]
    rw [hv] at k17
    have hi1 : ∀ h : Hp, importR h (chA nx2 pay2 cost2) = (chA nx2 pay2 cost2, h) := fun _ => rfl
    have hst : ∀ (g : Hp) (id : Nat), storeC g id 0 3 (some (.cells false false [.nil, .nil, .nil])) [LLI nx2, LI pay2, LI cost2] = some (.skp, g.put id (some (.cells false false [LLI nx2, LI pay2, LI cost2]))) := fun g id => by simp [storeC, setL, AV.isCell]
    have k30 := fun h h' K => ConW_num (h := h) (h' := h') (K := K) (liftX (by decide) (f30_con nx2 pay2 cost2 hk2)) rfl
    cases c1 : chB nx2 pay2 cost2 with
    | false =>
      have hr : bstR nx2 pay2 cost2 (bestL nx2 pay2 cost2) = .tup [LP [], LI [], I 2] := by rw [bstR, c1]; rfl
      have k16 := fun h h' K => ConW_any (h := h) (h' := h') (K := K) (f16_con nx2 pay2 cost2 hk2) (by rw [hr]; rfl)
      have hr2 : chkR nx2 pay2 cost2 (bestL nx2 pay2 cost2) [] = 2 := by rw [chkR, c1]; rfl
      have k46 := fun h h' K => ConW_num (h := h) (h' := h') (K := K) (f46_con nx2 pay2 cost2 hk2 [] (by simp)) rfl
      rw [hr] at k16
      rw [hr2] at k46
      rw [c1] at k30
      refine Con_intro Try.func13 rfl okX13 (Nat.le_of_ble_eq_true rfl) rfl ?_
      simp only [Try.f13, Option.getD_some, initSt1]
      simp (disch := first | (simp only [go_sem, Bool.and_self, eq_self]; done) | omega | (simp only [gl1, gl2]; omega)) only [go_sem, ↓reduceIte, Nat.reduceEqDiff, Nat.reduceAdd, Nat.reduceMul, Nat.reduceSub, Int.reduceToNat, Nat.reduceBEq, hal, hse, k17, hi1, hst, k16, hi3, k30, k46, z0]
    | true =>
      have C := okC.of c1
      have hbl := bestL_len C
      have hbv := best_vb C
      have hn6 := C.n6
      have hr : bstR nx2 pay2 cost2 (bestL nx2 pay2 cost2) = .tup [LP (bestL nx2 pay2 cost2), LI (stopsL nx2.length pay2 (bestL nx2 pay2 cost2) nx2.length), I 0] := by rw [bstR, c1]; rfl
      have k16 := fun h h' K => ConW_any (h := h) (h' := h') (K := K) (f16_con nx2 pay2 cost2 hk2) (by rw [hr]; rfl)
      have k37 := fun h h' K => ConW_any (h := h) (h' := h') (K := K) (liftX (by decide) (f37_con C)) rfl
      have k46 := fun h h' K => ConW_num (h := h) (h' := h') (K := K) (f46_con nx2 pay2 cost2 hk2 (bestL nx2 pay2 cost2) (by omega)) rfl
      have hr2 : chkR nx2 pay2 cost2 (bestL nx2 pay2 cost2) (bestL nx2 pay2 cost2) = 0 := by rw [chkR, c1, hbv, hbl]; simp
      rw [hr] at k16
      rw [hr2] at k46
      rw [c1] at k30
      have hsl := stops_len nx2.length pay2 (bestL nx2 pay2 cost2)
      generalize stopsL nx2.length pay2 (bestL nx2 pay2 cost2) nx2.length = s at *
      generalize bestL nx2 pay2 cost2 = b at *
      have k33 := fun h h' K => ConW_num (h := h) (h' := h') (K := K) (liftX (by decide) (f33_con b b (by omega) (by omega))) rfl
      have k22 := fun h h' K => ConW_num (h := h) (h' := h') (K := K) (liftX (by decide) (f22_con s s (by omega) (by omega))) rfl
      rw [decide_eq_true rfl] at k33 k22
      refine Con_intro Try.func13 rfl okX13 (Nat.le_of_ble_eq_true rfl) rfl ?_
      simp only [Try.f13, Option.getD_some, initSt1]
      simp (disch := first | (simp only [go_sem, Bool.and_self, eq_self]; done) | omega | (simp only [gl1, gl2]; omega)) only [go_sem, ↓reduceIte, Nat.reduceEqDiff, Nat.reduceAdd, Nat.reduceMul, Nat.reduceSub, Int.reduceToNat, Nat.reduceBEq, hal, hse, k17, hi1, hst, k16, hi3, hi2, k30, k37, k33, k22, k46, z0]
end Go.Proofs.Ytgamcclfdkpcgaa

set_option linter.unusedVariables false
set_option linter.unusedSimpArgs false
set_option maxRecDepth 10000
namespace Go.Proofs.Ytgamcclfdkpcgaa
open Go Go.Am

variable {h h' : Hp} {K : AV → Hp → Prop}

theorem f8_con (nx : List (List Int)) (pay cost l : List Int) (hk : okN nx pay cost) (hl : l.length ≤ maxLen) : Con Try.prog cfgX 8 [chA nx pay cost, LI l] (.bool true) := by
  have ml : maxLen = 9223372036854775807 := by decide
  have hal : ∀ (g : Hp) nx pay cost, allocB g (some (chA nx pay cost)) = some (.ptr g.nx 0, g.alloc (.cells false false [LLI nx, LI pay, LI cost])) := fun g _ _ _ => allocB_agg _ rfl
  have hse : ∀ (h : Hp) nx pay cost, sealA h (chA nx pay cost) = some (chA nx pay cost, h) := fun h _ _ _ => sealA_agg _ (by simp only [AV.pureL, pure_L, Bool.and_true])
  have k17 := fun h h' K => ConW_any (h := h) (h' := h') (K := K) (liftX (by decide) (f17_con nx pay cost hk)) (by unfold chV; split <;> rfl)
  have k28 := fun h h' K => ConW_any (h := h) (h' := h') (K := K) (liftX (by decide) (f28_con l hl)) rfl
  have hk2 := okN.copy nx pay cost
  have hl2 : (listM l).length ≤ maxLen := by have := listM_len l; omega
  have hx8 := nxM_len nx
  generalize listM l = l2 at *
  generalize nxM nx = nx2 at *
  generalize listM pay = pay2 at *
  generalize listM cost = cost2 at *
  have hi0 : ∀ (h : Hp) (a : List Int), importR h (LI a) = (LI a, h) := fun _ _ => rfl
  have hi2 : ∀ (h : Hp) (a : List (Int × Int)) (e : Int), importR h (.tup [LP a, I e]) = (.tup [LP a, I e], h) := fun _ _ _ => rfl
  have hi3 : ∀ (h : Hp) (a : List (Int × Int)), importR h (LP a) = (LP a, h) := fun _ _ => rfl
  have z0 : ((0 : Nat) : Int) = 0 := rfl
  by_cases hn : nx2 = []
  · have hvv : chV nx2 pay2 cost2 = .agg [.nil, LI pay2, LI cost2] := by rw [chV, if_pos hn]
    rw [hvv] at k17
    have hi1 : ∀ h : Hp, importR h (.agg [.nil, LI pay2, LI cost2]) = (.agg [.nil, LI pay2, LI cost2], h) := fun _ => rfl
    have hse1 : ∀ h : Hp, sealA h (.agg [.nil, LI pay2, LI cost2]) = some (.agg [.nil, LI pay2, LI cost2], h) := fun h => sealA_agg _ (by simp only [AV.pureL, pure_L, Bool.and_true]; rfl)
    have hst : ∀ (g : Hp) (id : Nat), storeC g id 0 3 (some (.cells false false [.nil, .nil, .nil])) [.nil, LI pay2, LI cost2] = some (.skp, g.put id (some (.cells false false [.nil, LI pay2, LI cost2]))) := fun g id => by simp [storeC, setL, AV.isCell]
    have k29 := fun h h' K => ConW_any (h := h) (h' := h') (K := K) (liftX (by decide) (f29_nil pay2 cost2 l2)) rfl
    have k30 := fun h h' K => ConW_num (h := h) (h' := h') (K := K) (liftX (by decide) (f30_nil pay2 cost2)) rfl
    refine Con_intro Try.func8 rfl okX8 (Nat.le_of_ble_eq_true rfl) rfl ?_
    simp only [Try.f8, Option.getD_some, initSt2]
    simp (disch := first | (simp only [go_sem, Bool.and_self, eq_self]; done) | omega | (simp only [gl1, gl2]; omega)) only [go_sem, ↓reduceIte, Nat.reduceEqDiff, Nat.reduceAdd, Nat.reduceMul, Nat.reduceSub, Int.reduceToNat, Nat.reduceBEq, hal, hse, k17, k28, hi0, hi1, hse1, hst, k29, hi2, k30, z0]
  · have hvv : chV nx2 pay2 cost2 = chA nx2 pay2 cost2 := by rw [chV, if_neg hn]
    rw [hvv] at k17
    have hi1 : ∀ h : Hp, importR h (chA nx2 pay2 cost2) = (chA nx2 pay2 cost2, h) := fun _ => rfl
    have hst : ∀ (g : Hp) (id : Nat), storeC g id 0 3 (some (.cells false false [.nil, .nil, .nil])) [LLI nx2, LI pay2, LI cost2] = some (.skp, g.put id (some (.cells false false [LLI nx2, LI pay2, LI cost2]))) := fun g id => by simp [storeC, setL, AV.isCell]
    have k30 := fun h h' K => ConW_num (h := h) (h' := h') (K := K) (liftX (by decide) (f30_con nx2 pay2 cost2 hk2)) rfl
    cases c1 : chB nx2 pay2 cost2 with
    | false =>
      have hr : rulR nx2 pay2 cost2 l2 = .tup [LP [], I 2] := by rw [rulR, c1]; rfl
      have k29 := fun h h' K => ConW_any (h := h) (h' := h') (K := K) (liftX (by decide) (f29_con nx2 pay2 cost2 l2 hk2 hl2)) (by rw [hr]; rfl)
      rw [hr] at k29
      rw [c1] at k30
      refine Con_intro Try.func8 rfl okX8 (Nat.le_of_ble_eq_true rfl) rfl ?_
      simp only [Try.f8, Option.getD_some, initSt2]
      simp (disch := first | (simp only [go_sem, Bool.and_self, eq_self]; done) | omega | (simp only [gl1, gl2]; omega)) only [go_sem, ↓reduceIte, Nat.reduceEqDiff, Nat.reduceAdd, Nat.reduceMul, Nat.reduceSub, Int.reduceToNat, Nat.reduceBEq, hal, hse, k17, k28, hi0, hi1, hst, k29, hi2, k30, z0]
    | true =>
      have C := okC.of c1
      have hn6 := C.n6
      have k31 := fun h h' K => ConW_num (h := h) (h' := h') (K := K) (liftX (by decide) (f31_con nx2.length (by omega) l2 hl2)) rfl
      rw [c1] at k30
      cases c2 : ruleOK nx2.length l2 with
      | false =>
        have hr : rulR nx2 pay2 cost2 l2 = .tup [LP [], I 2] := by rw [rulR, c1, c2]; rfl
        have k29 := fun h h' K => ConW_any (h := h) (h' := h') (K := K) (liftX (by decide) (f29_con nx2 pay2 cost2 l2 hk2 hl2)) (by rw [hr]; rfl)
        rw [hr] at k29
        rw [c2] at k31
        refine Con_intro Try.func8 rfl okX8 (Nat.le_of_ble_eq_true rfl) rfl ?_
        simp only [Try.f8, Option.getD_some, initSt2]
        simp (disch := first | (simp only [go_sem, Bool.and_self, eq_self]; done) | omega | (simp only [gl1, gl2]; omega)) only [go_sem, ↓reduceIte, Nat.reduceEqDiff, Nat.reduceAdd, Nat.reduceMul, Nat.reduceSub, Int.reduceToNat, Nat.reduceBEq, hal, hse, k17, k28, hi0, hi1, hst, k29, hi2, k30, k31, z0]
      | true =>
        have k32 := fun h h' K => ConW_num (h := h) (h' := h') (K := K) (liftX (by decide) (f32_con C l2 hl2)) rfl
        rw [c2] at k31
        cases c3 : sndB nx2.length (wF nx2) (xOf nx2.length l2) with
        | false =>
          have hr : rulR nx2 pay2 cost2 l2 = .tup [LP [], I 6] := by rw [rulR, c1, c2, c3]; rfl
          have k29 := fun h h' K => ConW_any (h := h) (h' := h') (K := K) (liftX (by decide) (f29_con nx2 pay2 cost2 l2 hk2 hl2)) (by rw [hr]; rfl)
          rw [hr] at k29
          rw [c3] at k32
          refine Con_intro Try.func8 rfl okX8 (Nat.le_of_ble_eq_true rfl) rfl ?_
          simp only [Try.f8, Option.getD_some, initSt2]
          simp (disch := first | (simp only [go_sem, Bool.and_self, eq_self]; done) | omega | (simp only [gl1, gl2]; omega)) only [go_sem, ↓reduceIte, Nat.reduceEqDiff, Nat.reduceAdd, Nat.reduceMul, Nat.reduceSub, Int.reduceToNat, Nat.reduceBEq, hal, hse, k17, k28, hi0, hi1, hst, k29, hi2, k30, k31, k32, z0]
        | true =>
          have hr : rulR nx2 pay2 cost2 l2 = .tup [LP (valL nx2 pay2 cost2 (xOf nx2.length l2)), I 0] := by rw [rulR, c1, c2, c3]; rfl
          have k29 := fun h h' K => ConW_any (h := h) (h' := h') (K := K) (liftX (by decide) (f29_con nx2 pay2 cost2 l2 hk2 hl2)) (by rw [hr]; rfl)
          have k34 := fun h h' K => ConW_any (h := h) (h' := h') (K := K) (liftX (by decide) (f34_con C l2 hl2 (sndB_iff.1 c3))) rfl
          have hvl := valL_len nx2 pay2 cost2 (xOf nx2.length l2)
          rw [hr] at k29
          rw [c3] at k32
          generalize valL nx2 pay2 cost2 (xOf nx2.length l2) = v at *
          have k33 := fun h h' K => ConW_num (h := h) (h' := h') (K := K) (liftX (by decide) (f33_con v v (by omega) (by omega))) rfl
          rw [decide_eq_true rfl] at k33
          refine Con_intro Try.func8 rfl okX8 (Nat.le_of_ble_eq_true rfl) rfl ?_
          simp only [Try.f8, Option.getD_some, initSt2]
          simp (disch := first | (simp only [go_sem, Bool.and_self, eq_self]; done) | omega | (simp only [gl1, gl2]; omega)) only [go_sem, ↓reduceIte, Nat.reduceEqDiff, Nat.reduceAdd, Nat.reduceMul, Nat.reduceSub, Int.reduceToNat, Nat.reduceBEq, hal, hse, k17, k28, hi0, hi1, hst, k29, hi2, hi3, k30, k31, k32, k34, k33, z0]
end Go.Proofs.Ytgamcclfdkpcgaa
