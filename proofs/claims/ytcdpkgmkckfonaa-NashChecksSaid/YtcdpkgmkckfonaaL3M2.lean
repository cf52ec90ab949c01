/-
  Gains; the reference's tests.
  The reference: turned, Rows, best, Equilibrium, Gain.
  The reference: Gain, Mix; the laws' copies.
  cornerOf.
  cornerOf: the walk.
  fits.
  sets: what the closure hands to the body of a range over it.
  corners: words, and the closures that sets and corners return.
  corners: what the closure hands to the body of a range over it.
  solve: the walk up to the loops; what a round needs.
-/
import Derived.Test.YtcdpkgmkckfonaaL3M1
import Derived.Test.YtcdpkgmkckfonaaAmNest
import Derived.Test.YtcdpkgmkckfonaaAmDefer
set_option linter.unusedVariables false
set_option linter.unusedSimpArgs false
set_option maxRecDepth 10000
namespace Go.Proofs.Ytcdpkgmkckfonaa
open Go Go.Am

variable {h h' : Hp} {K : AV → Hp → Prop}

/-! ### Gains -/
def gnsP (a : List (List Int)) (m n : Nat) (x y : List (Int × Int)) : Int × Int := rdP (dotG a m n (numL x) (numL y)) (denL x * denL y)
def gnsR (a b : List (List Int)) (x y : List (Int × Int)) : AV :=
  if gamB a b && (shB a.length x && shB (nth a 0).length y) then .tup [FR (gnsP a a.length (nth a 0).length x y), FR (gnsP b a.length (nth a 0).length x y), I 0] else .tup [FR (0, 0), FR (0, 0), I 2]
theorem f34_con (a b : List (List Int)) (x y : List (Int × Int)) (ha : okLL a) (hb : okLL b) (hx : x.length ≤ maxLen) (hy : y.length ≤ maxLen) : Con Try.prog cfg 34 [LLI a, LLI b, LP x, LP y] (gnsR a b x y) := by
  have kk52 := fun h h' K => k52 (h := h) (h' := h') (K := K) a b ha hb
  have hal : ∀ (g : Hp) (x y : Int), allocB g (some (.agg [I x, I y])) = some (.ptr g.nx 0, g.alloc (.cells false false [I x, I y])) := fun g x y => allocB_agg _ rfl
  cases c1 : gamB a b with
  | false =>
    have hr : gnsR a b x y = .tup [FR (0, 0), FR (0, 0), I 2] := by rw [gnsR, c1]; rfl
    rw [hr]
    refine Con_intro Try.func34 rfl ok34 (Nat.le_of_ble_eq_true rfl) rfl ?_
    simp only [Try.f34, Option.getD_some, initSt4]
    simp (disch := first | (simp only [go_sem, gb0, eq_self]; done) | omega | (simp only [gl1, gl2]; omega)) only [go_sem, ↓reduceIte, Nat.reduceEqDiff, Nat.reduceAdd, Nat.reduceMul, Nat.reduceSub, Int.reduceToNat, Nat.reduceBEq, kk52, c1, hal]
  | true =>
  obtain ⟨Ta, Tb'⟩ := gamB_Tb c1
  have hce : gnsR a b x y = if shB a.length x && shB (nth a 0).length y then .tup [FR (gnsP a a.length (nth a 0).length x y), FR (gnsP b a.length (nth a 0).length x y), I 0] else .tup [FR (0, 0), FR (0, 0), I 2] := by rw [gnsR, c1]; rfl
  rw [hce]
  have hm1 := Ta.m1
  have hn1 := Ta.n1
  generalize hm : a.length = m at *
  generalize hn : (nth a 0).length = n at *
  have kk63 := fun h h' K => k63 (h := h) (h' := h') (K := K) Ta x y hx hy
  obtain ⟨v, d, w, e, hmx, ⟨hv, hw⟩, ⟨hvp, hvc⟩, hwp, hwc⟩ := mxR_form m n x y
  rw [hmx] at kk63
  have hal0 : ∀ g : Hp, allocB g (some (.agg [.nil, I 0])) = some (.ptr g.nx 0, g.alloc (.cells false false [.nil, I 0])) := fun g => allocB_agg _ rfl
  have hst : ∀ (g : Hp) (id : Nat) (a b : AV) (v : AV) (d : Int), v.isCell = true → storeC g id 0 2 (some (.cells false false [a, b])) [v, I d] = some (.skp, g.put id (some (.cells false false [v, I d]))) := fun g id a b v d hv => by simp [storeC, setL, hv]; rfl
  have hsv := fun g id a b => hst g id a b v d hvc
  have hsw := fun g id a b => hst g id a b w e hwc
  refine Con_intro Try.func34 rfl ok34 (Nat.le_of_ble_eq_true rfl) rfl ?_
  simp only [Try.f34, Option.getD_some, initSt4]
  simp (disch := first | (simp only [go_sem, gb0, eq_self]; done) | omega | (simp only [gl1, gl2]; omega)) only [go_sem, ↓reduceIte, Nat.reduceEqDiff, Nat.reduceAdd, Nat.reduceMul, Nat.reduceSub, Int.reduceToNat, Nat.reduceBEq, kk52, c1, hal, ↓stopY 3 false]
  refine WPy_go (fun st h => st 0 = LLI a ∧ st 1 = LLI b ∧ st 2 = LP x ∧ st 3 = LP y ∧ st 8 = .ptr 0 0 ∧ st 9 = .ptr 1 0 ∧ h.nx = 2 ∧ h.bl 0 = some (.cells false false [I 0, I 0]) ∧ h.bl 1 = some (.cells false false [I 0, I 0])) ⟨by simp (disch := first | (simp only [go_sem, gb0, eq_self]; done) | omega | (simp only [gl1, gl2]; omega)) only [go_sem, ↓reduceIte, Nat.reduceEqDiff, Nat.reduceAdd, Nat.reduceMul, Nat.reduceSub, Int.reduceToNat, Nat.reduceBEq], by simp (disch := first | (simp only [go_sem, gb0, eq_self]; done) | omega | (simp only [gl1, gl2]; omega)) only [go_sem, ↓reduceIte, Nat.reduceEqDiff, Nat.reduceAdd, Nat.reduceMul, Nat.reduceSub, Int.reduceToNat, Nat.reduceBEq], by simp (disch := first | (simp only [go_sem, gb0, eq_self]; done) | omega | (simp only [gl1, gl2]; omega)) only [go_sem, ↓reduceIte, Nat.reduceEqDiff, Nat.reduceAdd, Nat.reduceMul, Nat.reduceSub, Int.reduceToNat, Nat.reduceBEq], by simp (disch := first | (simp only [go_sem, gb0, eq_self]; done) | omega | (simp only [gl1, gl2]; omega)) only [go_sem, ↓reduceIte, Nat.reduceEqDiff, Nat.reduceAdd, Nat.reduceMul, Nat.reduceSub, Int.reduceToNat, Nat.reduceBEq], by simp (disch := first | (simp only [go_sem, gb0, eq_self]; done) | omega | (simp only [gl1, gl2]; omega)) only [go_sem, ↓reduceIte, Nat.reduceEqDiff, Nat.reduceAdd, Nat.reduceMul, Nat.reduceSub, Int.reduceToNat, Nat.reduceBEq], by simp (disch := first | (simp only [go_sem, gb0, eq_self]; done) | omega | (simp only [gl1, gl2]; omega)) only [go_sem, ↓reduceIte, Nat.reduceEqDiff, Nat.reduceAdd, Nat.reduceMul, Nat.reduceSub, Int.reduceToNat, Nat.reduceBEq], by simp (disch := first | (simp only [go_sem, gb0, eq_self]; done) | omega | (simp only [gl1, gl2]; omega)) only [go_sem, ↓reduceIte, Nat.reduceEqDiff, Nat.reduceAdd, Nat.reduceMul, Nat.reduceSub, Int.reduceToNat, Nat.reduceBEq], by simp (disch := first | (simp only [go_sem, gb0, eq_self]; done) | omega | (simp only [gl1, gl2]; omega)) only [go_sem, ↓reduceIte, Nat.reduceEqDiff, Nat.reduceAdd, Nat.reduceMul, Nat.reduceSub, Int.reduceToNat, Nat.reduceBEq], by simp (disch := first | (simp only [go_sem, gb0, eq_self]; done) | omega | (simp only [gl1, gl2]; omega)) only [go_sem, ↓reduceIte, Nat.reduceEqDiff, Nat.reduceAdd, Nat.reduceMul, Nat.reduceSub, Int.reduceToNat, Nat.reduceBEq]⟩ ?_
  rintro st h ⟨s0, s1, s2, s3, s8, s9, hnx, b0, b1⟩
  simp (disch := first | (simp only [go_sem, gb0, eq_self]; done) | omega | (simp only [gl1, gl2]; omega)) only [go_sem, ↓reduceIte, Nat.reduceEqDiff, Nat.reduceAdd, Nat.reduceMul, Nat.reduceSub, Int.reduceToNat, Nat.reduceBEq, s0, s1, s2, s3, s8, s9, hnx, kk63, hal0, hsv, hsw, ↓stopY 4 false]
  refine WPy_go (fun st h => st 0 = LLI a ∧ st 1 = LLI b ∧ st 8 = .ptr 0 0 ∧ st 9 = .ptr 1 0 ∧ st 11 = .ptr 2 0 ∧ st 12 = .ptr 3 0 ∧ st 13 = .bool (shB m x && shB n y) ∧ h.nx = 4 ∧ h.bl 0 = some (.cells false false [I 0, I 0]) ∧ h.bl 1 = some (.cells false false [I 0, I 0]) ∧ h.bl 2 = some (.cells false false [v, I d]) ∧ h.bl 3 = some (.cells false false [w, I e])) ⟨by simp (disch := first | (simp only [go_sem, gb0, eq_self]; done) | omega | (simp only [gl1, gl2]; omega)) only [go_sem, ↓reduceIte, Nat.reduceEqDiff, Nat.reduceAdd, Nat.reduceMul, Nat.reduceSub, Int.reduceToNat, Nat.reduceBEq, s0, s1, s2, s3, s8, s9, hnx], by simp (disch := first | (simp only [go_sem, gb0, eq_self]; done) | omega | (simp only [gl1, gl2]; omega)) only [go_sem, ↓reduceIte, Nat.reduceEqDiff, Nat.reduceAdd, Nat.reduceMul, Nat.reduceSub, Int.reduceToNat, Nat.reduceBEq, s0, s1, s2, s3, s8, s9, hnx], by simp (disch := first | (simp only [go_sem, gb0, eq_self]; done) | omega | (simp only [gl1, gl2]; omega)) only [go_sem, ↓reduceIte, Nat.reduceEqDiff, Nat.reduceAdd, Nat.reduceMul, Nat.reduceSub, Int.reduceToNat, Nat.reduceBEq, s0, s1, s2, s3, s8, s9, hnx], by simp (disch := first | (simp only [go_sem, gb0, eq_self]; done) | omega | (simp only [gl1, gl2]; omega)) only [go_sem, ↓reduceIte, Nat.reduceEqDiff, Nat.reduceAdd, Nat.reduceMul, Nat.reduceSub, Int.reduceToNat, Nat.reduceBEq, s0, s1, s2, s3, s8, s9, hnx], by simp (disch := first | (simp only [go_sem, gb0, eq_self]; done) | omega | (simp only [gl1, gl2]; omega)) only [go_sem, ↓reduceIte, Nat.reduceEqDiff, Nat.reduceAdd, Nat.reduceMul, Nat.reduceSub, Int.reduceToNat, Nat.reduceBEq, s0, s1, s2, s3, s8, s9, hnx], by simp (disch := first | (simp only [go_sem, gb0, eq_self]; done) | omega | (simp only [gl1, gl2]; omega)) only [go_sem, ↓reduceIte, Nat.reduceEqDiff, Nat.reduceAdd, Nat.reduceMul, Nat.reduceSub, Int.reduceToNat, Nat.reduceBEq, s0, s1, s2, s3, s8, s9, hnx], by simp (disch := first | (simp only [go_sem, gb0, eq_self]; done) | omega | (simp only [gl1, gl2]; omega)) only [go_sem, ↓reduceIte, Nat.reduceEqDiff, Nat.reduceAdd, Nat.reduceMul, Nat.reduceSub, Int.reduceToNat, Nat.reduceBEq], by simp (disch := first | (simp only [go_sem, gb0, eq_self]; done) | omega | (simp only [gl1, gl2]; omega)) only [go_sem, ↓reduceIte, Nat.reduceEqDiff, Nat.reduceAdd, Nat.reduceMul, Nat.reduceSub, Int.reduceToNat, Nat.reduceBEq, hnx], by simp (disch := first | (simp only [go_sem, gb0, eq_self]; done) | omega | (simp only [gl1, gl2]; omega)) only [go_sem, ↓reduceIte, Nat.reduceEqDiff, Nat.reduceAdd, Nat.reduceMul, Nat.reduceSub, Int.reduceToNat, Nat.reduceBEq, hnx, b0], by simp (disch := first | (simp only [go_sem, gb0, eq_self]; done) | omega | (simp only [gl1, gl2]; omega)) only [go_sem, ↓reduceIte, Nat.reduceEqDiff, Nat.reduceAdd, Nat.reduceMul, Nat.reduceSub, Int.reduceToNat, Nat.reduceBEq, hnx, b1], by simp (disch := first | (simp only [go_sem, gb0, eq_self]; done) | omega | (simp only [gl1, gl2]; omega)) only [go_sem, ↓reduceIte, Nat.reduceEqDiff, Nat.reduceAdd, Nat.reduceMul, Nat.reduceSub, Int.reduceToNat, Nat.reduceBEq, hnx], by simp (disch := first | (simp only [go_sem, gb0, eq_self]; done) | omega | (simp only [gl1, gl2]; omega)) only [go_sem, ↓reduceIte, Nat.reduceEqDiff, Nat.reduceAdd, Nat.reduceMul, Nat.reduceSub, Int.reduceToNat, Nat.reduceBEq, hnx]⟩ ?_
  clear s0 s1 s2 s3 s8 s9 hnx b0 b1 h
  rintro st h ⟨s0, s1, s8, s9, s11, s12, s13, hnx, b0, b1, b2, b3⟩
  cases c2 : shB m x && shB n y with
  | false =>
    rw [c2] at s13
    simp (disch := first | (simp only [go_sem, gb0, eq_self]; done) | omega | (simp only [gl1, gl2]; omega)) only [go_sem, ↓reduceIte, Nat.reduceEqDiff, Nat.reduceAdd, Nat.reduceMul, Nat.reduceSub, Int.reduceToNat, Nat.reduceBEq, s0, s1, s8, s9, s11, s12, s13, b0, b1]
  | true =>
  rw [c2] at s13
  rw [Bool.and_eq_true] at c2
  have X := shB_Sh hm1 c2.1
  have Y := shB_Sh hn1 c2.2
  rw [shB_V c2.1] at hv
  rw [shB_V c2.2] at hw
  cases hv
  cases hw
  have kk43 := fun h h' K => k43 (h := h) (h' := h') (K := K) Ta X Y
  have kk43' := fun h h' K => k43 (h := h) (h' := h') (K := K) Tb' X Y
  have e1 : rdP (dotG a m n (numL x) (numL y)) (denL x * denL y) = gnsP a m n x y := rfl
  have e2 : rdP (dotG b m n (numL x) (numL y)) (denL x * denL y) = gnsP b m n x y := rfl
  rw [e1] at kk43
  rw [e2] at kk43'
  simp (disch := first | (simp only [go_sem, gb0, eq_self]; done) | omega | (simp only [gl1, gl2]; omega)) only [go_sem, ↓reduceIte, Nat.reduceEqDiff, Nat.reduceAdd, Nat.reduceMul, Nat.reduceSub, Int.reduceToNat, Nat.reduceBEq, s0, s1, s8, s9, s11, s12, s13, hnx, b0, b1, b2, b3, kk43, kk43']
/-! ### The reference's tests of tables -/
theorem rowB_no {n : Nat} {l : List Int} {j : Nat} (hj : j < l.length) (h : ¬ (-20 ≤ nth l j ∧ nth l j ≤ 20)) : rowB n l = false := by
  have : (l.all fun x => inB x (-20) 20) = false := all_no hj (by
    show (decide (-20 ≤ nth l j) && decide (nth l j ≤ 20)) = false
    rw [← Bool.decide_and, decide_eq_false h])
  rw [rowB, this, Bool.and_false]
theorem f19_con (a : List (List Int)) (ha : okLL a) : Con Try.prog cfg 19 [LLI a] (.bool (tblB a)) := by
  have ml : maxLen = 9223372036854775807 := by decide
  have hl := ha.len
  by_cases c1 : (a.length : Int) < 1
  · have hr : tblB a = false := by rw [tblB, inB, decide_eq_false (show ¬ (1 : Int) ≤ a.length by omega)]; rfl
    rw [hr]
    refine Con_intro Try.func19 rfl ok19 (Nat.le_of_ble_eq_true rfl) rfl ?_
    simp only [Try.f19, Option.getD_some, initSt1]
    simp (disch := first | (simp only [go_sem, gb0, eq_self]; done) | omega | (simp only [gl1, gl2]; omega)) only [go_sem, ↓reduceIte, Nat.reduceEqDiff, Nat.reduceAdd, Nat.reduceMul, Nat.reduceSub, Int.reduceToNat, Nat.reduceBEq, c1]
  by_cases c2 : 4 < (a.length : Int)
  · have hr : tblB a = false := by rw [tblB, inB, decide_eq_false (show ¬ (a.length : Int) ≤ 4 by omega), Bool.and_false]; rfl
    rw [hr]
    refine Con_intro Try.func19 rfl ok19 (Nat.le_of_ble_eq_true rfl) rfl ?_
    simp only [Try.f19, Option.getD_some, initSt1]
    simp (disch := first | (simp only [go_sem, gb0, eq_self]; done) | omega | (simp only [gl1, gl2]; omega)) only [go_sem, ↓reduceIte, Nat.reduceEqDiff, Nat.reduceAdd, Nat.reduceMul, Nat.reduceSub, Int.reduceToNat, Nat.reduceBEq, c1, c2]
  have i1 : inB a.length 1 4 = true := by simp only [inB, Bool.and_eq_true, decide_eq_true_eq]; omega
  have h0 : 0 < a.length := by omega
  have hrow : ∀ i, i < a.length → rowB (nth a 0).length (nth a i) = false → tblB a = false := fun i hi h => by rw [tblB, all_no hi h, Bool.and_false]
  have hlen4 : ∀ i, i < a.length → ¬ (1 ≤ (nth a i).length ∧ (nth a i).length ≤ 4) → tblB a = false := fun i hi h => by
    by_cases e : (nth a i).length = (nth a 0).length
    · have : inB (nth a 0).length 1 4 = false := by
        rw [← e, inB, ← Bool.decide_and]; exact decide_eq_false (by omega)
      rw [tblB, this, Bool.and_false]; rfl
    · exact hrow i hi (by rw [rowB, decide_eq_false e]; rfl)
  refine Con_intro Try.func19 rfl ok19 (Nat.le_of_ble_eq_true rfl) rfl ?_
  simp only [Try.f19, Option.getD_some, initSt1]
  simp (disch := first | (simp only [go_sem, gb0, eq_self]; done) | omega | (simp only [gl1, gl2]; omega)) only [go_sem, ↓reduceIte, Nat.reduceEqDiff, Nat.reduceAdd, Nat.reduceMul, Nat.reduceSub, Int.reduceToNat, Nat.reduceBEq, c1, c2]
  refine WP_for 3 a.length (fun i st h => st 0 = LLI a ∧ ∀ k, k < i → rowB (nth a 0).length (nth a k) = true ∧ 1 ≤ (nth a k).length ∧ (nth a k).length ≤ 4) (by simp (disch := first | (simp only [go_sem, gb0, eq_self]; done) | omega | (simp only [gl1, gl2]; omega)) only [go_sem, ↓reduceIte, Nat.reduceEqDiff, Nat.reduceAdd, Nat.reduceMul, Nat.reduceSub, Int.reduceToNat, Nat.reduceBEq]) ⟨by simp (disch := first | (simp only [go_sem, gb0, eq_self]; done) | omega | (simp only [gl1, gl2]; omega)) only [go_sem, ↓reduceIte, Nat.reduceEqDiff, Nat.reduceAdd, Nat.reduceMul, Nat.reduceSub, Int.reduceToNat, Nat.reduceBEq], fun k hk => by omega⟩ ?_
  rintro i st h hi s3 ⟨s0, hn⟩
  by_cases hlt : i < a.length
  case neg =>
    have h00 := (hn 0 (by omega)).2
    have : tblB a = true := by
      have i2 : inB (nth a 0).length 1 4 = true := by simp only [inB, Bool.and_eq_true, decide_eq_true_eq]; omega
      rw [tblB, i1, i2, all_nthI fun k hk => (hn k (by omega)).1]; rfl
    rw [this]
    simp (disch := first | (simp only [go_sem, gb0, eq_self]; done) | omega | (simp only [gl1, gl2]; omega)) only [go_sem, ↓reduceIte, Nat.reduceEqDiff, Nat.reduceAdd, Nat.reduceMul, Nat.reduceSub, Int.reduceToNat, Nat.reduceBEq, s0, s3, hlt]
  have hil : (i : Int) < a.length := by omega
  by_cases d1 : ((nth a i).length : Int) < 1
  · rw [hlen4 i hlt (by omega)]
    simp (disch := first | (simp only [go_sem, gb0, eq_self]; done) | omega | (simp only [gl1, gl2]; omega)) only [go_sem, ↓reduceIte, Nat.reduceEqDiff, Nat.reduceAdd, Nat.reduceMul, Nat.reduceSub, Int.reduceToNat, Nat.reduceBEq, s0, s3, hlt, hil, d1]
  by_cases d2 : 4 < ((nth a i).length : Int)
  · rw [hlen4 i hlt (by omega)]
    simp (disch := first | (simp only [go_sem, gb0, eq_self]; done) | omega | (simp only [gl1, gl2]; omega)) only [go_sem, ↓reduceIte, Nat.reduceEqDiff, Nat.reduceAdd, Nat.reduceMul, Nat.reduceSub, Int.reduceToNat, Nat.reduceBEq, s0, s3, hlt, hil, d1, d2]
  by_cases d3 : ((nth a i).length : Int) = (nth a 0).length
  case neg =>
    rw [hrow i hlt (by rw [rowB, decide_eq_false (by omega)]; rfl)]
    simp (disch := first | (simp only [go_sem, gb0, eq_self]; done) | omega | (simp only [gl1, gl2]; omega)) only [go_sem, ↓reduceIte, Nat.reduceEqDiff, Nat.reduceAdd, Nat.reduceMul, Nat.reduceSub, Int.reduceToNat, Nat.reduceBEq, s0, s3, hlt, hil, h0, d1, d2, d3]
  have d1' : ¬ ((nth a 0).length : Int) < 1 := by omega
  have d2' : ¬ 4 < ((nth a 0).length : Int) := by omega
  simp (disch := first | (simp only [go_sem, gb0, eq_self]; done) | omega | (simp only [gl1, gl2]; omega)) only [go_sem, ↓reduceIte, Nat.reduceEqDiff, Nat.reduceAdd, Nat.reduceMul, Nat.reduceSub, Int.reduceToNat, Nat.reduceBEq, s0, s3, hlt, hil, h0, d1', d2', d3, eq_self, decide_true, Bool.not_true]
  refine WP_for 4 (nth a i).length (fun j st h => st 0 = LLI a ∧ st 3 = I i ∧ ∀ k, k < j → -20 ≤ nth (nth a i) k ∧ nth (nth a i) k ≤ 20) (by simp (disch := first | (simp only [go_sem, gb0, eq_self]; done) | omega | (simp only [gl1, gl2]; omega)) only [go_sem, ↓reduceIte, Nat.reduceEqDiff, Nat.reduceAdd, Nat.reduceMul, Nat.reduceSub, Int.reduceToNat, Nat.reduceBEq]) ⟨by simp (disch := first | (simp only [go_sem, gb0, eq_self]; done) | omega | (simp only [gl1, gl2]; omega)) only [go_sem, ↓reduceIte, Nat.reduceEqDiff, Nat.reduceAdd, Nat.reduceMul, Nat.reduceSub, Int.reduceToNat, Nat.reduceBEq, s0, s3], by simp (disch := first | (simp only [go_sem, gb0, eq_self]; done) | omega | (simp only [gl1, gl2]; omega)) only [go_sem, ↓reduceIte, Nat.reduceEqDiff, Nat.reduceAdd, Nat.reduceMul, Nat.reduceSub, Int.reduceToNat, Nat.reduceBEq, s0, s3], fun k hk => by omega⟩ ?_
  clear s0 s3
  rintro j st h hj s4 ⟨s0, s3, hb⟩
  by_cases hjl : j < (nth a i).length
  case neg =>
    simp (disch := first | (simp only [go_sem, gb0, eq_self]; done) | omega | (simp only [gl1, gl2]; omega)) only [go_sem, ↓reduceIte, Nat.reduceEqDiff, Nat.reduceAdd, Nat.reduceMul, Nat.reduceSub, Int.reduceToNat, Nat.reduceBEq, s0, s3, s4, hlt, hil, hjl]
    rw [ForK_normal]
    refine ⟨hlt, by simp (disch := first | (simp only [go_sem, gb0, eq_self]; done) | omega | (simp only [gl1, gl2]; omega)) only [go_sem, ↓reduceIte, Nat.reduceEqDiff, Nat.reduceAdd, Nat.reduceMul, Nat.reduceSub, Int.reduceToNat, Nat.reduceBEq, s3], by simp (disch := first | (simp only [go_sem, gb0, eq_self]; done) | omega | (simp only [gl1, gl2]; omega)) only [go_sem, ↓reduceIte, Nat.reduceEqDiff, Nat.reduceAdd, Nat.reduceMul, Nat.reduceSub, Int.reduceToNat, Nat.reduceBEq, s0], fun k hk => ?_⟩
    by_cases q : k = i
    · subst q
      refine ⟨?_, by omega, by omega⟩
      rw [rowB, decide_eq_true (by omega)]
      exact all_nthI fun j' hj' => by
        have := hb j' (by omega)
        simp [inB, this.1, this.2]
    · exact hn k (by omega)
  have hjl' : (j : Int) < (nth a i).length := by omega
  by_cases e1 : nth (nth a i) j < -20
  · rw [hrow i hlt (rowB_no hjl (by omega))]
    simp (disch := first | (simp only [go_sem, gb0, eq_self]; done) | omega | (simp only [gl1, gl2]; omega)) only [go_sem, ↓reduceIte, Nat.reduceEqDiff, Nat.reduceAdd, Nat.reduceMul, Nat.reduceSub, Int.reduceToNat, Nat.reduceBEq, s0, s3, s4, hlt, hil, hjl, hjl', e1]
  by_cases e2 : 20 < nth (nth a i) j
  · rw [hrow i hlt (rowB_no hjl (by omega))]
    simp (disch := first | (simp only [go_sem, gb0, eq_self]; done) | omega | (simp only [gl1, gl2]; omega)) only [go_sem, ↓reduceIte, Nat.reduceEqDiff, Nat.reduceAdd, Nat.reduceMul, Nat.reduceSub, Int.reduceToNat, Nat.reduceBEq, s0, s3, s4, hlt, hil, hjl, hjl', e1, e2]
  simp (disch := first | (simp only [go_sem, gb0, eq_self]; done) | omega | (simp only [gl1, gl2]; omega)) only [go_sem, ↓reduceIte, Nat.reduceEqDiff, Nat.reduceAdd, Nat.reduceMul, Nat.reduceSub, Int.reduceToNat, Nat.reduceBEq, s0, s3, s4, hlt, hil, hjl, hjl', e1, e2]
  rw [ForK_normal]
  exact ⟨hjl, by simp (disch := first | (simp only [go_sem, gb0, eq_self]; done) | omega | (simp only [gl1, gl2]; omega)) only [go_sem, ↓reduceIte, Nat.reduceEqDiff, Nat.reduceAdd, Nat.reduceMul, Nat.reduceSub, Int.reduceToNat, Nat.reduceBEq, s4], by simp (disch := first | (simp only [go_sem, gb0, eq_self]; done) | omega | (simp only [gl1, gl2]; omega)) only [go_sem, ↓reduceIte, Nat.reduceEqDiff, Nat.reduceAdd, Nat.reduceMul, Nat.reduceSub, Int.reduceToNat, Nat.reduceBEq, s0], by simp (disch := first | (simp only [go_sem, gb0, eq_self]; done) | omega | (simp only [gl1, gl2]; omega)) only [go_sem, ↓reduceIte, Nat.reduceEqDiff, Nat.reduceAdd, Nat.reduceMul, Nat.reduceSub, Int.reduceToNat, Nat.reduceBEq, s3] , fun k hk => by
    by_cases q : k = j
    · subst q; omega
    · exact hb k (by omega)⟩
@[go_sem] theorem k19 (a : List (List Int)) (ha : okLL a) : ConW Try.prog cfg 19 h (some ([LLI a], h')) K = K (.bool (tblB a)) h := ConW_num (f19_con a ha) rfl
theorem f27_con (a b : List (List Int)) (ha : okLL a) (hb : okLL b) : Con Try.prog cfg 27 [LLI a, LLI b] (.bool (gamB a b)) := by
  have ml : maxLen = 9223372036854775807 := by decide
  have ka := fun h h' K => k19 (h := h) (h' := h') (K := K) a ha
  have kb := fun h h' K => k19 (h := h) (h' := h') (K := K) b hb
  cases c1 : tblB a with
  | false =>
    have hr : gamB a b = false := by rw [gamB, c1]; rfl
    rw [hr]
    refine Con_intro Try.func27 rfl ok27 (Nat.le_of_ble_eq_true rfl) rfl ?_
    simp only [Try.f27, Option.getD_some, initSt2]
    simp (disch := first | (simp only [go_sem, gb0, eq_self]; done) | omega | (simp only [gl1, gl2]; omega)) only [go_sem, ↓reduceIte, Nat.reduceEqDiff, Nat.reduceAdd, Nat.reduceMul, Nat.reduceSub, Int.reduceToNat, Nat.reduceBEq, ka, c1]
  | true =>
  cases c2 : tblB b with
  | false =>
    have hr : gamB a b = false := by rw [gamB, c2, Bool.and_false, Bool.false_and]
    rw [hr]
    refine Con_intro Try.func27 rfl ok27 (Nat.le_of_ble_eq_true rfl) rfl ?_
    simp only [Try.f27, Option.getD_some, initSt2]
    simp (disch := first | (simp only [go_sem, gb0, eq_self]; done) | omega | (simp only [gl1, gl2]; omega)) only [go_sem, ↓reduceIte, Nat.reduceEqDiff, Nat.reduceAdd, Nat.reduceMul, Nat.reduceSub, Int.reduceToNat, Nat.reduceBEq, ka, kb, c1, c2]
  | true =>
  have Ta := tblB_Tb c1
  have T' := tblB_Tb c2
  have h0 : 0 < a.length := Ta.m1
  have h1 : 0 < b.length := T'.m1
  by_cases c3 : a.length = b.length
  case neg =>
    have hr : gamB a b = false := by rw [gamB, decide_eq_false c3, Bool.false_and, Bool.and_false]
    rw [hr]
    have c3' : ¬ (a.length : Int) = b.length := by omega
    refine Con_intro Try.func27 rfl ok27 (Nat.le_of_ble_eq_true rfl) rfl ?_
    simp only [Try.f27, Option.getD_some, initSt2]
    simp (disch := first | (simp only [go_sem, gb0, eq_self]; done) | omega | (simp only [gl1, gl2]; omega)) only [go_sem, ↓reduceIte, Nat.reduceEqDiff, Nat.reduceAdd, Nat.reduceMul, Nat.reduceSub, Int.reduceToNat, Nat.reduceBEq, ka, kb, c1, c2, c3']
  have c3' : (a.length : Int) = b.length := by omega
  have hr : gamB a b = decide ((nth a 0).length = (nth b 0).length) := by rw [gamB, c1, c2, decide_eq_true c3]; rfl
  have hd : decide (((nth a 0).length : Int) = ((nth b 0).length : Int)) = decide ((nth a 0).length = (nth b 0).length) := decide_eq_decide.2 (by omega)
  rw [hr, ← hd]
  refine Con_intro Try.func27 rfl ok27 (Nat.le_of_ble_eq_true rfl) rfl ?_
  simp only [Try.f27, Option.getD_some, initSt2]
  simp (disch := first | (simp only [go_sem, gb0, eq_self]; done) | omega | (simp only [gl1, gl2]; omega)) only [go_sem, ↓reduceIte, Nat.reduceEqDiff, Nat.reduceAdd, Nat.reduceMul, Nat.reduceSub, Int.reduceToNat, Nat.reduceBEq, ka, kb, c1, c2, c3', h0, h1, eq_self, decide_true]
end Go.Proofs.Ytcdpkgmkckfonaa

set_option linter.unusedVariables false
set_option linter.unusedSimpArgs false
set_option maxRecDepth 10000
namespace Go.Proofs.Ytcdpkgmkckfonaa
open Go Go.Am

variable {h h' : Hp} {K : AV → Hp → Prop}

/-- Rows of one length. -/
structure Rec (a : List (List Int)) (m n : Nat) : Prop where
  m1 : 1 ≤ m
  m4 : m ≤ 4
  n1 : 1 ≤ n
  n4 : n ≤ 4
  len : a.length = m
  row : ∀ i, i < m → (nth a i).length = n
theorem Tb.rc {a : List (List Int)} {m n : Nat} (T : Tb a m n) : Rec a m n := ⟨T.m1, T.m4, T.n1, T.n4, T.len, T.row⟩
theorem f50_con {a : List (List Int)} {m n : Nat} (T : Rec a m n) : Con Try.prog cfg 50 [LLI a] (LLI (turnL a m n)) := by
  have hm1 := T.m1
  have hm4 := T.m4
  have hn1 := T.n1
  have hn4 := T.n4
  have hl := T.len
  have hr0 := T.row 0 (by omega)
  have h0 : 0 < a.length := by omega
  have hnl : turnL a m n = (List.range n).map fun j => colL a j m := rfl
  rw [hnl]
  refine Con_intro Try.func50 rfl ok50 (Nat.le_of_ble_eq_true rfl) rfl ?_
  simp only [Try.f50, Option.getD_some, initSt1]
  simp (disch := first | (simp only [go_sem, gb0, eq_self]; done) | omega | (simp only [gl1, gl2]; omega)) only [go_sem, ↓reduceIte, Nat.reduceEqDiff, Nat.reduceAdd, Nat.reduceMul, Nat.reduceSub, Int.reduceToNat, Nat.reduceBEq]
  refine WP_for 4 n (fun j st h => st 0 = LLI a ∧ ∃ v, st 3 = v ∧ Go.Am.Own (e1 LI) 1 h v ((List.range j).map fun j => colL a j m)) (by simp (disch := first | (simp only [go_sem, gb0, eq_self]; done) | omega | (simp only [gl1, gl2]; omega)) only [go_sem, ↓reduceIte, Nat.reduceEqDiff, Nat.reduceAdd, Nat.reduceMul, Nat.reduceSub, Int.reduceToNat, Nat.reduceBEq]) ⟨by simp (disch := first | (simp only [go_sem, gb0, eq_self]; done) | omega | (simp only [gl1, gl2]; omega)) only [go_sem, ↓reduceIte, Nat.reduceEqDiff, Nat.reduceAdd, Nat.reduceMul, Nat.reduceSub, Int.reduceToNat, Nat.reduceBEq], .nil, by simp (disch := first | (simp only [go_sem, gb0, eq_self]; done) | omega | (simp only [gl1, gl2]; omega)) only [go_sem, ↓reduceIte, Nat.reduceEqDiff, Nat.reduceAdd, Nat.reduceMul, Nat.reduceSub, Int.reduceToNat, Nat.reduceBEq], .inl ⟨rfl, rfl⟩⟩ ?_
  rintro j st h hj s4 ⟨s0, v, s3, ov⟩
  by_cases hlt : j < n
  case neg =>
    have hke : j = n := by omega
    subst hke
    simp (disch := first | (simp only [go_sem, gb0, eq_self]; done) | omega | (simp only [gl1, gl2]; omega)) only [go_sem, ↓reduceIte, Nat.reduceEqDiff, Nat.reduceAdd, Nat.reduceMul, Nat.reduceSub, Int.reduceToNat, Nat.reduceBEq, s0, s3, s4, hlt, h0, hr0]
    exact export_Own (f := e1 LI) 22 ov
  simp (disch := first | (simp only [go_sem, gb0, eq_self]; done) | omega | (simp only [gl1, gl2]; omega)) only [go_sem, ↓reduceIte, Nat.reduceEqDiff, Nat.reduceAdd, Nat.reduceMul, Nat.reduceSub, Int.reduceToNat, Nat.reduceBEq, s0, s3, s4, hlt, h0, hr0]
  refine WP_for 6 m (fun i st h => st 0 = LLI a ∧ st 4 = I j ∧ st 3 = v ∧ Go.Am.Own (e1 LI) 1 h v ((List.range j).map fun j => colL a j m) ∧ ∃ w, st 5 = w ∧ Go.Am.Own (e1 I) 1 h w (colL a j i) ∧ Dis v w) (by simp (disch := first | (simp only [go_sem, gb0, eq_self]; done) | omega | (simp only [gl1, gl2]; omega)) only [go_sem, ↓reduceIte, Nat.reduceEqDiff, Nat.reduceAdd, Nat.reduceMul, Nat.reduceSub, Int.reduceToNat, Nat.reduceBEq])
    ⟨by simp (disch := first | (simp only [go_sem, gb0, eq_self]; done) | omega | (simp only [gl1, gl2]; omega)) only [go_sem, ↓reduceIte, Nat.reduceEqDiff, Nat.reduceAdd, Nat.reduceMul, Nat.reduceSub, Int.reduceToNat, Nat.reduceBEq, s0, s4], by simp (disch := first | (simp only [go_sem, gb0, eq_self]; done) | omega | (simp only [gl1, gl2]; omega)) only [go_sem, ↓reduceIte, Nat.reduceEqDiff, Nat.reduceAdd, Nat.reduceMul, Nat.reduceSub, Int.reduceToNat, Nat.reduceBEq, s0, s4], by simp (disch := first | (simp only [go_sem, gb0, eq_self]; done) | omega | (simp only [gl1, gl2]; omega)) only [go_sem, ↓reduceIte, Nat.reduceEqDiff, Nat.reduceAdd, Nat.reduceMul, Nat.reduceSub, Int.reduceToNat, Nat.reduceBEq, s3], ov, .nil, by simp (disch := first | (simp only [go_sem, gb0, eq_self]; done) | omega | (simp only [gl1, gl2]; omega)) only [go_sem, ↓reduceIte, Nat.reduceEqDiff, Nat.reduceAdd, Nat.reduceMul, Nat.reduceSub, Int.reduceToNat, Nat.reduceBEq], .inl ⟨rfl, rfl⟩, Dis.nil_r _⟩ ?_
  rintro i st h hi s6 ⟨s0, s4, s3, ov, w, s5, ow, dd⟩
  by_cases hil : i < m
  case neg =>
    have hje : i = m := by omega
    subst hje
    obtain ⟨g1, z1, n1, b1⟩ := sealA_Own ow
    have ov1 : Go.Am.Own (e1 LI) 1 g1 v ((List.range j).map fun j => colL a j i) := by
      rcases ov with q | ⟨id, q, h1, h2⟩
      · exact .inl q
      · exact .inr ⟨id, q, by omega, by rw [b1 id fun id' off n s e' => dd _ _ _ _ _ _ _ _ q e']; exact h2⟩
    have hbs := bsB_one (P := Try.prog) 31 _ (LI (colL a j i)) .nil _ isz31 izero31 rfl rfl rfl z1 rfl rfl (pure_L _)
    have happ := app_one (P := Try.prog) ov1 31 24 .nil (colL a j i) isz31 ibytes31 izero31 rfl (by simp; omega) (by simp; omega)
    simp (disch := first | (simp only [go_sem, gb0, eq_self]; done) | omega | (simp only [gl1, gl2]; omega)) only [go_sem, ↓reduceIte, Nat.reduceEqDiff, Nat.reduceAdd, Nat.reduceMul, Nat.reduceSub, Int.reduceToNat, Nat.reduceBEq, s0, s4, s3, s5, s6, hil, hl, hbs, happ]
    rw [ForK_normal]
    refine ⟨hlt, by simp (disch := first | (simp only [go_sem, gb0, eq_self]; done) | omega | (simp only [gl1, gl2]; omega)) only [go_sem, ↓reduceIte, Nat.reduceEqDiff, Nat.reduceAdd, Nat.reduceMul, Nat.reduceSub, Int.reduceToNat, Nat.reduceBEq, s4], by simp (disch := first | (simp only [go_sem, gb0, eq_self]; done) | omega | (simp only [gl1, gl2]; omega)) only [go_sem, ↓reduceIte, Nat.reduceEqDiff, Nat.reduceAdd, Nat.reduceMul, Nat.reduceSub, Int.reduceToNat, Nat.reduceBEq, s0], _, by simp (disch := first | (simp only [go_sem, gb0, eq_self]; done) | omega | (simp only [gl1, gl2]; omega)) only [go_sem, ↓reduceIte, Nat.reduceEqDiff, Nat.reduceAdd, Nat.reduceMul, Nat.reduceSub, Int.reduceToNat, Nat.reduceBEq]; rfl, ?_⟩
    have := Own.app (f := e1 LI) (sz := 1) g1 v ((List.range j).map (fun j => colL a j i) ++ [colL a j i])
    rw [rows_snoc (fun j => colL a j i) j] at this ⊢
    exact this
  have hri := T.row i hil
  have hjr : j < (nth a i).length := by omega
  have hia : i < a.length := by omega
  have hbs := fun h : Hp => bsB_one (P := Try.prog) (h := h) 3 (I (nth (nth a i) j)) (I (nth (nth a i) j)) (I 0) h isz3 izero3 rfl rfl rfl rfl rfl rfl rfl
  have happ := app_one (P := Try.prog) ow 3 8 (I 0) (nth (nth a i) j) isz3 ibytes3 izero3 rfl (by rw [colL_len]; omega) (by rw [colL_len]; omega)
  simp (disch := first | (simp only [go_sem, gb0, eq_self]; done) | omega | (simp only [gl1, gl2]; omega)) only [go_sem, ↓reduceIte, Nat.reduceEqDiff, Nat.reduceAdd, Nat.reduceMul, Nat.reduceSub, Int.reduceToNat, Nat.reduceBEq, s0, s4, s3, s5, s6, hil, hl, hjr, hia, hbs, happ]
  rw [ForK_normal]
  refine ⟨hil, by simp (disch := first | (simp only [go_sem, gb0, eq_self]; done) | omega | (simp only [gl1, gl2]; omega)) only [go_sem, ↓reduceIte, Nat.reduceEqDiff, Nat.reduceAdd, Nat.reduceMul, Nat.reduceSub, Int.reduceToNat, Nat.reduceBEq, s6], by simp (disch := first | (simp only [go_sem, gb0, eq_self]; done) | omega | (simp only [gl1, gl2]; omega)) only [go_sem, ↓reduceIte, Nat.reduceEqDiff, Nat.reduceAdd, Nat.reduceMul, Nat.reduceSub, Int.reduceToNat, Nat.reduceBEq, s0], by simp (disch := first | (simp only [go_sem, gb0, eq_self]; done) | omega | (simp only [gl1, gl2]; omega)) only [go_sem, ↓reduceIte, Nat.reduceEqDiff, Nat.reduceAdd, Nat.reduceMul, Nat.reduceSub, Int.reduceToNat, Nat.reduceBEq, s4], by simp (disch := first | (simp only [go_sem, gb0, eq_self]; done) | omega | (simp only [gl1, gl2]; omega)) only [go_sem, ↓reduceIte, Nat.reduceEqDiff, Nat.reduceAdd, Nat.reduceMul, Nat.reduceSub, Int.reduceToNat, Nat.reduceBEq, s3], ov.keep dd.symm _, _, by simp (disch := first | (simp only [go_sem, gb0, eq_self]; done) | omega | (simp only [gl1, gl2]; omega)) only [go_sem, ↓reduceIte, Nat.reduceEqDiff, Nat.reduceAdd, Nat.reduceMul, Nat.reduceSub, Int.reduceToNat, Nat.reduceBEq]; rfl, ?_, ?_⟩
  · have e : colL a j (i + 1) = colL a j i ++ [nth (nth a i) j] := by rw [colL, colL, rows_snoc]
    rw [e]; exact Own.app _ _ _
  · exact (ov.dis _ _).symm
theorem k50 {a : List (List Int)} {m n : Nat} (T : Rec a m n) : ConW Try.prog cfg 50 h (some ([LLI a], h')) K = K (LLI (turnL a m n)) h' := by
  rw [ConW_any (f50_con T) rfl]; rfl

/-! ### Rows -/
theorem sum_pb {f : Nat → Int} {B : Int} {n : Nat} (hf : ∀ j, j < n → -B ≤ f j ∧ f j ≤ B) (hB : 0 ≤ B) : ∀ k, k ≤ n → -(k * B) ≤ sumN f k ∧ sumN f k ≤ k * B := fun k hk => sum_part_b hB hf k hk
theorem f51_con {a : List (List Int)} {m n : Nat} (T : Rec a m n) {ys : List Int} (hy : ys.length = n) (hp : ∀ i, i < m → ∀ j, j < n → -1125899906842624 ≤ nth (nth a i) j * nth ys j ∧ nth (nth a i) j * nth ys j ≤ 1125899906842624) : Con Try.prog cfg 51 [LLI a, LI ys] (LI (gainsL a m n ys)) := by
  have hm1 := T.m1
  have hm4 := T.m4
  have hn1 := T.n1
  have hn4 := T.n4
  have hl := T.len
  have hgl : gainsL a m n ys = (List.range m).map (rowG a n ys) := rfl
  rw [hgl]
  refine Con_intro Try.func51 rfl ok51 (Nat.le_of_ble_eq_true rfl) rfl ?_
  simp only [Try.f51, Option.getD_some, initSt2]
  simp (disch := first | (simp only [go_sem, gb0, eq_self]; done) | omega | (simp only [gl1, gl2]; omega)) only [go_sem, ↓reduceIte, Nat.reduceEqDiff, Nat.reduceAdd, Nat.reduceMul, Nat.reduceSub, Int.reduceToNat, Nat.reduceBEq]
  refine WP_for 6 m (fun i st h => st 0 = LLI a ∧ st 1 = LI ys ∧ ∃ v, st 5 = v ∧ Go.Am.Own (e1 I) 1 h v ((List.range i).map (rowG a n ys))) (by simp (disch := first | (simp only [go_sem, gb0, eq_self]; done) | omega | (simp only [gl1, gl2]; omega)) only [go_sem, ↓reduceIte, Nat.reduceEqDiff, Nat.reduceAdd, Nat.reduceMul, Nat.reduceSub, Int.reduceToNat, Nat.reduceBEq]) ⟨by simp (disch := first | (simp only [go_sem, gb0, eq_self]; done) | omega | (simp only [gl1, gl2]; omega)) only [go_sem, ↓reduceIte, Nat.reduceEqDiff, Nat.reduceAdd, Nat.reduceMul, Nat.reduceSub, Int.reduceToNat, Nat.reduceBEq], by simp (disch := first | (simp only [go_sem, gb0, eq_self]; done) | omega | (simp only [gl1, gl2]; omega)) only [go_sem, ↓reduceIte, Nat.reduceEqDiff, Nat.reduceAdd, Nat.reduceMul, Nat.reduceSub, Int.reduceToNat, Nat.reduceBEq], .nil, by simp (disch := first | (simp only [go_sem, gb0, eq_self]; done) | omega | (simp only [gl1, gl2]; omega)) only [go_sem, ↓reduceIte, Nat.reduceEqDiff, Nat.reduceAdd, Nat.reduceMul, Nat.reduceSub, Int.reduceToNat, Nat.reduceBEq], .inl ⟨rfl, rfl⟩⟩ ?_
  rintro i st h hi s6 ⟨s0, s1, v, s5, ov⟩
  by_cases hlt : i < m
  case neg =>
    have hke : i = m := by omega
    subst hke
    simp (disch := first | (simp only [go_sem, gb0, eq_self]; done) | omega | (simp only [gl1, gl2]; omega)) only [go_sem, ↓reduceIte, Nat.reduceEqDiff, Nat.reduceAdd, Nat.reduceMul, Nat.reduceSub, Int.reduceToNat, Nat.reduceBEq, s0, s1, s5, s6, hl, hlt]
    exact export_Own (f := e1 I) 31 ov
  have hri := T.row i hlt
  have hia : i < a.length := by omega
  simp (disch := first | (simp only [go_sem, gb0, eq_self]; done) | omega | (simp only [gl1, gl2]; omega)) only [go_sem, ↓reduceIte, Nat.reduceEqDiff, Nat.reduceAdd, Nat.reduceMul, Nat.reduceSub, Int.reduceToNat, Nat.reduceBEq, s0, s1, s5, s6, hl, hlt]
  refine WP_for 8 n (fun j st h => st 0 = LLI a ∧ st 1 = LI ys ∧ st 6 = I i ∧ st 5 = v ∧ Go.Am.Own (e1 I) 1 h v ((List.range i).map (rowG a n ys)) ∧ st 7 = I (sumN (fun j => nth (nth a i) j * nth ys j) j)) (by simp (disch := first | (simp only [go_sem, gb0, eq_self]; done) | omega | (simp only [gl1, gl2]; omega)) only [go_sem, ↓reduceIte, Nat.reduceEqDiff, Nat.reduceAdd, Nat.reduceMul, Nat.reduceSub, Int.reduceToNat, Nat.reduceBEq])
    ⟨by simp (disch := first | (simp only [go_sem, gb0, eq_self]; done) | omega | (simp only [gl1, gl2]; omega)) only [go_sem, ↓reduceIte, Nat.reduceEqDiff, Nat.reduceAdd, Nat.reduceMul, Nat.reduceSub, Int.reduceToNat, Nat.reduceBEq, s0, s1, s6], by simp (disch := first | (simp only [go_sem, gb0, eq_self]; done) | omega | (simp only [gl1, gl2]; omega)) only [go_sem, ↓reduceIte, Nat.reduceEqDiff, Nat.reduceAdd, Nat.reduceMul, Nat.reduceSub, Int.reduceToNat, Nat.reduceBEq, s0, s1, s6], by simp (disch := first | (simp only [go_sem, gb0, eq_self]; done) | omega | (simp only [gl1, gl2]; omega)) only [go_sem, ↓reduceIte, Nat.reduceEqDiff, Nat.reduceAdd, Nat.reduceMul, Nat.reduceSub, Int.reduceToNat, Nat.reduceBEq, s0, s1, s6], by simp (disch := first | (simp only [go_sem, gb0, eq_self]; done) | omega | (simp only [gl1, gl2]; omega)) only [go_sem, ↓reduceIte, Nat.reduceEqDiff, Nat.reduceAdd, Nat.reduceMul, Nat.reduceSub, Int.reduceToNat, Nat.reduceBEq, s5], ov, by simp (disch := first | (simp only [go_sem, gb0, eq_self]; done) | omega | (simp only [gl1, gl2]; omega)) only [go_sem, ↓reduceIte, Nat.reduceEqDiff, Nat.reduceAdd, Nat.reduceMul, Nat.reduceSub, Int.reduceToNat, Nat.reduceBEq]; rfl⟩ ?_
  clear s0 s1
  rintro j st h hj s8 ⟨s0, s1, s6, s5, ov, s7⟩
  by_cases hjl : j < n
  case neg =>
    have hje : j = n := by omega
    subst hje
    have hre : sumN (fun k => nth (nth a i) k * nth ys k) j = rowG a j ys i := rfl
    rw [hre] at s7
    have hbs := fun h : Hp => bsB_one (P := Try.prog) (h := h) 3 (I (rowG a j ys i)) (I (rowG a j ys i)) (I 0) h isz3 izero3 rfl rfl rfl rfl rfl rfl rfl
    have happ := app_one (P := Try.prog) ov 3 8 (I 0) (rowG a j ys i) isz3 ibytes3 izero3 rfl (by simp; omega) (by simp; omega)
    simp (disch := first | (simp only [go_sem, gb0, eq_self]; done) | omega | (simp only [gl1, gl2]; omega)) only [go_sem, ↓reduceIte, Nat.reduceEqDiff, Nat.reduceAdd, Nat.reduceMul, Nat.reduceSub, Int.reduceToNat, Nat.reduceBEq, s0, s1, s6, s5, s7, s8, hy, hjl, hbs, happ]
    rw [ForK_normal]
    refine ⟨hlt, by simp (disch := first | (simp only [go_sem, gb0, eq_self]; done) | omega | (simp only [gl1, gl2]; omega)) only [go_sem, ↓reduceIte, Nat.reduceEqDiff, Nat.reduceAdd, Nat.reduceMul, Nat.reduceSub, Int.reduceToNat, Nat.reduceBEq, s6], by simp (disch := first | (simp only [go_sem, gb0, eq_self]; done) | omega | (simp only [gl1, gl2]; omega)) only [go_sem, ↓reduceIte, Nat.reduceEqDiff, Nat.reduceAdd, Nat.reduceMul, Nat.reduceSub, Int.reduceToNat, Nat.reduceBEq, s0], by simp (disch := first | (simp only [go_sem, gb0, eq_self]; done) | omega | (simp only [gl1, gl2]; omega)) only [go_sem, ↓reduceIte, Nat.reduceEqDiff, Nat.reduceAdd, Nat.reduceMul, Nat.reduceSub, Int.reduceToNat, Nat.reduceBEq, s1], _, by simp (disch := first | (simp only [go_sem, gb0, eq_self]; done) | omega | (simp only [gl1, gl2]; omega)) only [go_sem, ↓reduceIte, Nat.reduceEqDiff, Nat.reduceAdd, Nat.reduceMul, Nat.reduceSub, Int.reduceToNat, Nat.reduceBEq]; rfl, ?_⟩
    rw [← rows_snoc]; exact Own.app _ _ _
  have hjr : j < (nth a i).length := by omega
  have hjy : j < ys.length := by omega
  have hb := sum_pb (B := 1125899906842624) (hp i hlt) (by decide) j (by omega)
  have hst : sumN (fun k => nth (nth a i) k * nth ys k) (j + 1) = sumN (fun k => nth (nth a i) k * nth ys k) j + nth (nth a i) j * nth ys j := rfl
  have hpb := hp i hlt j hjl
  generalize hS : sumN (fun k => nth (nth a i) k * nth ys k) j = S0 at *
  generalize hp : nth (nth a i) j * nth ys j = p at *
  simp (disch := first | (simp only [go_sem, gb0, eq_self]; done) | omega | (simp only [gl1, gl2]; omega)) only [go_sem, ↓reduceIte, Nat.reduceEqDiff, Nat.reduceAdd, Nat.reduceMul, Nat.reduceSub, Int.reduceToNat, Nat.reduceBEq, s0, s1, s6, s5, s7, s8, hjl, hjr, hjy, hia, hy, hp]
  rw [ForK_normal]
  exact ⟨hjl, by simp (disch := first | (simp only [go_sem, gb0, eq_self]; done) | omega | (simp only [gl1, gl2]; omega)) only [go_sem, ↓reduceIte, Nat.reduceEqDiff, Nat.reduceAdd, Nat.reduceMul, Nat.reduceSub, Int.reduceToNat, Nat.reduceBEq, s8], by simp (disch := first | (simp only [go_sem, gb0, eq_self]; done) | omega | (simp only [gl1, gl2]; omega)) only [go_sem, ↓reduceIte, Nat.reduceEqDiff, Nat.reduceAdd, Nat.reduceMul, Nat.reduceSub, Int.reduceToNat, Nat.reduceBEq, s0], by simp (disch := first | (simp only [go_sem, gb0, eq_self]; done) | omega | (simp only [gl1, gl2]; omega)) only [go_sem, ↓reduceIte, Nat.reduceEqDiff, Nat.reduceAdd, Nat.reduceMul, Nat.reduceSub, Int.reduceToNat, Nat.reduceBEq, s1], by simp (disch := first | (simp only [go_sem, gb0, eq_self]; done) | omega | (simp only [gl1, gl2]; omega)) only [go_sem, ↓reduceIte, Nat.reduceEqDiff, Nat.reduceAdd, Nat.reduceMul, Nat.reduceSub, Int.reduceToNat, Nat.reduceBEq, s6], by simp (disch := first | (simp only [go_sem, gb0, eq_self]; done) | omega | (simp only [gl1, gl2]; omega)) only [go_sem, ↓reduceIte, Nat.reduceEqDiff, Nat.reduceAdd, Nat.reduceMul, Nat.reduceSub, Int.reduceToNat, Nat.reduceBEq, s5], ov, by simp (disch := first | (simp only [go_sem, gb0, eq_self]; done) | omega | (simp only [gl1, gl2]; omega)) only [go_sem, ↓reduceIte, Nat.reduceEqDiff, Nat.reduceAdd, Nat.reduceMul, Nat.reduceSub, Int.reduceToNat, Nat.reduceBEq, hst]⟩
theorem k51 {a : List (List Int)} {m n : Nat} (T : Rec a m n) {ys : List Int} (hy : ys.length = n) (hp : ∀ i, i < m → ∀ j, j < n → -1125899906842624 ≤ nth (nth a i) j * nth ys j ∧ nth (nth a i) j * nth ys j ≤ 1125899906842624) : ConW Try.prog cfg 51 h (some ([LLI a, LI ys], h')) K = K (LI (gainsL a m n ys)) h' := by
  rw [ConW_any (f51_con T hy hp) rfl]; rfl
theorem Sh_prod {a : List (List Int)} {m n : Nat} (T : Tb a m n) {ys : List Int} {d : Int} (S : Sh ys d n) : ∀ i, i < m → ∀ j, j < n → -1125899906842624 ≤ nth (nth a i) j * nth ys j ∧ nth (nth a i) j * nth ys j ≤ 1125899906842624 := fun i hi j hj => by
  have h2 := T.bd i hi j hj
  have h3 := S.n0 j hj
  have h4 := S.n1 j hj
  have a1 : nth (nth a i) j * nth ys j ≤ 20 * nth ys j := Int.mul_le_mul_of_nonneg_right h2.2 h3
  have a2 : -20 * nth ys j ≤ nth (nth a i) j * nth ys j := Int.mul_le_mul_of_nonneg_right h2.1 h3
  omega

/-! ### best -/
theorem bestB_no {a : List (List Int)} {m n : Nat} {xs ys : List Int} {i k : Nat} (hi : i < m) (hk : k < m) (hx : 0 < nth xs i) (hg : rowG a n ys i < rowG a n ys k) : bestB a m n xs ys = false := by
  rw [bestB, List.all_eq_false]
  have h1 : nth (gainsL a m n ys) k ≤ maxL (gainsL a m n ys) := maxL_ge (by rw [gainsL_len]; exact hk)
  rw [gainsL_nth hk] at h1
  exact ⟨i, List.mem_range.2 hi, by rw [decide_eq_true hx, decide_eq_true (by omega)]; decide⟩
theorem bestB_yes {a : List (List Int)} {m n : Nat} {xs ys : List Int} (hm : 0 < m) (h : ∀ i, i < m → ∀ k, k < m → 0 < nth xs i → rowG a n ys k ≤ rowG a n ys i) : bestB a m n xs ys = true := by
  rw [bestB, List.all_eq_true]
  intro i hi
  have hi := List.mem_range.1 hi
  obtain ⟨k, hk, e⟩ := maxL_ex (l := gainsL a m n ys) (by rw [gainsL_len]; exact hm)
  rw [gainsL_len] at hk
  rw [gainsL_nth hk] at e
  by_cases hx : 0 < nth xs i
  · have := h i hi k hk hx
    rw [decide_eq_false (show ¬ rowG a n ys i < maxL (gainsL a m n ys) by omega), Bool.and_false]; rfl
  · rw [decide_eq_false hx]; rfl
theorem f49_con {a : List (List Int)} {m n : Nat} (T : Tb a m n) {xs ys : List Int} {e : Int} (hx : xs.length = m) (Y : Sh ys e n) : Con Try.prog cfg 49 [LLI a, LI xs, LI ys] (.bool (bestB a m n xs ys)) := by
  have hm1 := T.m1
  have hm4 := T.m4
  have kk51 := fun h h' K => k51 (h := h) (h' := h') (K := K) T.rc Y.len (Sh_prod T Y)
  have hgl := gainsL_len a m n ys
  have hno := fun i k hi hk hx hg => bestB_no (a := a) (m := m) (n := n) (xs := xs) (ys := ys) (i := i) (k := k) hi hk hx hg
  have hyes := bestB_yes (a := a) (m := m) (n := n) (xs := xs) (ys := ys) (by omega)
  have hGn : ∀ i, i < m → nth (gainsL a m n ys) i = rowG a n ys i := fun i hi => gainsL_nth hi
  refine Con_intro Try.func49 rfl ok49 (Nat.le_of_ble_eq_true rfl) rfl ?_
  simp only [Try.f49, Option.getD_some, initSt3]
  simp (disch := first | (simp only [go_sem, gb0, eq_self]; done) | omega | (simp only [gl1, gl2]; omega)) only [go_sem, ↓reduceIte, Nat.reduceEqDiff, Nat.reduceAdd, Nat.reduceMul, Nat.reduceSub, Int.reduceToNat, Nat.reduceBEq, kk51]
  generalize bestB a m n xs ys = B at *
  generalize gainsL a m n ys = G at *
  refine WP_for 8 m (fun i st h => st 1 = LI xs ∧ st 7 = LI G ∧ ∀ k, k < i → ∀ l, l < m → 0 < nth xs k → rowG a n ys l ≤ rowG a n ys k) (by simp (disch := first | (simp only [go_sem, gb0, eq_self]; done) | omega | (simp only [gl1, gl2]; omega)) only [go_sem, ↓reduceIte, Nat.reduceEqDiff, Nat.reduceAdd, Nat.reduceMul, Nat.reduceSub, Int.reduceToNat, Nat.reduceBEq]) ⟨by simp (disch := first | (simp only [go_sem, gb0, eq_self]; done) | omega | (simp only [gl1, gl2]; omega)) only [go_sem, ↓reduceIte, Nat.reduceEqDiff, Nat.reduceAdd, Nat.reduceMul, Nat.reduceSub, Int.reduceToNat, Nat.reduceBEq], by simp (disch := first | (simp only [go_sem, gb0, eq_self]; done) | omega | (simp only [gl1, gl2]; omega)) only [go_sem, ↓reduceIte, Nat.reduceEqDiff, Nat.reduceAdd, Nat.reduceMul, Nat.reduceSub, Int.reduceToNat, Nat.reduceBEq], fun k hk => by omega⟩ ?_
  rintro i st h hi s8 ⟨s1, s7, hn⟩
  by_cases hlt : i < m
  case neg =>
    rw [hyes fun k hk => hn k (by omega)]
    simp (disch := first | (simp only [go_sem, gb0, eq_self]; done) | omega | (simp only [gl1, gl2]; omega)) only [go_sem, ↓reduceIte, Nat.reduceEqDiff, Nat.reduceAdd, Nat.reduceMul, Nat.reduceSub, Int.reduceToNat, Nat.reduceBEq, s1, s7, s8, hgl, hlt]
  simp (disch := first | (simp only [go_sem, gb0, eq_self]; done) | omega | (simp only [gl1, gl2]; omega)) only [go_sem, ↓reduceIte, Nat.reduceEqDiff, Nat.reduceAdd, Nat.reduceMul, Nat.reduceSub, Int.reduceToNat, Nat.reduceBEq, s1, s7, s8, hgl, hlt]
  refine WP_for 9 m (fun l st h => st 1 = LI xs ∧ st 7 = LI G ∧ st 8 = I i ∧ ∀ k, k < l → 0 < nth xs i → rowG a n ys k ≤ rowG a n ys i) (by simp (disch := first | (simp only [go_sem, gb0, eq_self]; done) | omega | (simp only [gl1, gl2]; omega)) only [go_sem, ↓reduceIte, Nat.reduceEqDiff, Nat.reduceAdd, Nat.reduceMul, Nat.reduceSub, Int.reduceToNat, Nat.reduceBEq]) ⟨by simp (disch := first | (simp only [go_sem, gb0, eq_self]; done) | omega | (simp only [gl1, gl2]; omega)) only [go_sem, ↓reduceIte, Nat.reduceEqDiff, Nat.reduceAdd, Nat.reduceMul, Nat.reduceSub, Int.reduceToNat, Nat.reduceBEq, s1, s7, s8], by simp (disch := first | (simp only [go_sem, gb0, eq_self]; done) | omega | (simp only [gl1, gl2]; omega)) only [go_sem, ↓reduceIte, Nat.reduceEqDiff, Nat.reduceAdd, Nat.reduceMul, Nat.reduceSub, Int.reduceToNat, Nat.reduceBEq, s1, s7, s8], by simp (disch := first | (simp only [go_sem, gb0, eq_self]; done) | omega | (simp only [gl1, gl2]; omega)) only [go_sem, ↓reduceIte, Nat.reduceEqDiff, Nat.reduceAdd, Nat.reduceMul, Nat.reduceSub, Int.reduceToNat, Nat.reduceBEq, s1, s7, s8], fun k hk => by omega⟩ ?_
  clear s1 s7
  rintro l st h hl s9 ⟨s1, s7, s8, hn2⟩
  by_cases hll : l < m
  case neg =>
    simp (disch := first | (simp only [go_sem, gb0, eq_self]; done) | omega | (simp only [gl1, gl2]; omega)) only [go_sem, ↓reduceIte, Nat.reduceEqDiff, Nat.reduceAdd, Nat.reduceMul, Nat.reduceSub, Int.reduceToNat, Nat.reduceBEq, s1, s7, s8, s9, hgl, hll]
    rw [ForK_normal]
    exact ⟨hlt, by simp (disch := first | (simp only [go_sem, gb0, eq_self]; done) | omega | (simp only [gl1, gl2]; omega)) only [go_sem, ↓reduceIte, Nat.reduceEqDiff, Nat.reduceAdd, Nat.reduceMul, Nat.reduceSub, Int.reduceToNat, Nat.reduceBEq, s8], by simp (disch := first | (simp only [go_sem, gb0, eq_self]; done) | omega | (simp only [gl1, gl2]; omega)) only [go_sem, ↓reduceIte, Nat.reduceEqDiff, Nat.reduceAdd, Nat.reduceMul, Nat.reduceSub, Int.reduceToNat, Nat.reduceBEq, s1], by simp (disch := first | (simp only [go_sem, gb0, eq_self]; done) | omega | (simp only [gl1, gl2]; omega)) only [go_sem, ↓reduceIte, Nat.reduceEqDiff, Nat.reduceAdd, Nat.reduceMul, Nat.reduceSub, Int.reduceToNat, Nat.reduceBEq, s7], fun k hk => by
      by_cases q : k = i
      · subst q; exact fun l hl => hn2 l (by omega)
      · exact hn k (by omega)⟩
  have hix : i < xs.length := by omega
  have hig : i < G.length := by omega
  have hlg : l < G.length := by omega
  have gi := hGn i hlt
  have gl := hGn l hll
  by_cases c1 : 0 < nth xs i
  case neg =>
    simp (disch := first | (simp only [go_sem, gb0, eq_self]; done) | omega | (simp only [gl1, gl2]; omega)) only [go_sem, ↓reduceIte, Nat.reduceEqDiff, Nat.reduceAdd, Nat.reduceMul, Nat.reduceSub, Int.reduceToNat, Nat.reduceBEq, s1, s7, s8, s9, hgl, hll, hix, hx, hlt, c1]
    rw [ForK_normal]
    exact ⟨hll, by simp (disch := first | (simp only [go_sem, gb0, eq_self]; done) | omega | (simp only [gl1, gl2]; omega)) only [go_sem, ↓reduceIte, Nat.reduceEqDiff, Nat.reduceAdd, Nat.reduceMul, Nat.reduceSub, Int.reduceToNat, Nat.reduceBEq, s9], by simp (disch := first | (simp only [go_sem, gb0, eq_self]; done) | omega | (simp only [gl1, gl2]; omega)) only [go_sem, ↓reduceIte, Nat.reduceEqDiff, Nat.reduceAdd, Nat.reduceMul, Nat.reduceSub, Int.reduceToNat, Nat.reduceBEq, s1], by simp (disch := first | (simp only [go_sem, gb0, eq_self]; done) | omega | (simp only [gl1, gl2]; omega)) only [go_sem, ↓reduceIte, Nat.reduceEqDiff, Nat.reduceAdd, Nat.reduceMul, Nat.reduceSub, Int.reduceToNat, Nat.reduceBEq, s7], by simp (disch := first | (simp only [go_sem, gb0, eq_self]; done) | omega | (simp only [gl1, gl2]; omega)) only [go_sem, ↓reduceIte, Nat.reduceEqDiff, Nat.reduceAdd, Nat.reduceMul, Nat.reduceSub, Int.reduceToNat, Nat.reduceBEq, s8], fun k hk h => h.elim⟩
  by_cases c2 : nth G i < nth G l
  · rw [hno i l hlt hll c1 (by omega)]
    simp (disch := first | (simp only [go_sem, gb0, eq_self]; done) | omega | (simp only [gl1, gl2]; omega)) only [go_sem, ↓reduceIte, Nat.reduceEqDiff, Nat.reduceAdd, Nat.reduceMul, Nat.reduceSub, Int.reduceToNat, Nat.reduceBEq, s1, s7, s8, s9, hgl, hll, hix, hx, hlt, hig, hlg, c1, c2]
  · simp (disch := first | (simp only [go_sem, gb0, eq_self]; done) | omega | (simp only [gl1, gl2]; omega)) only [go_sem, ↓reduceIte, Nat.reduceEqDiff, Nat.reduceAdd, Nat.reduceMul, Nat.reduceSub, Int.reduceToNat, Nat.reduceBEq, s1, s7, s8, s9, hgl, hll, hix, hx, hlt, hig, hlg, c1, c2]
    rw [ForK_normal]
    exact ⟨hll, by simp (disch := first | (simp only [go_sem, gb0, eq_self]; done) | omega | (simp only [gl1, gl2]; omega)) only [go_sem, ↓reduceIte, Nat.reduceEqDiff, Nat.reduceAdd, Nat.reduceMul, Nat.reduceSub, Int.reduceToNat, Nat.reduceBEq, s9], by simp (disch := first | (simp only [go_sem, gb0, eq_self]; done) | omega | (simp only [gl1, gl2]; omega)) only [go_sem, ↓reduceIte, Nat.reduceEqDiff, Nat.reduceAdd, Nat.reduceMul, Nat.reduceSub, Int.reduceToNat, Nat.reduceBEq, s1], by simp (disch := first | (simp only [go_sem, gb0, eq_self]; done) | omega | (simp only [gl1, gl2]; omega)) only [go_sem, ↓reduceIte, Nat.reduceEqDiff, Nat.reduceAdd, Nat.reduceMul, Nat.reduceSub, Int.reduceToNat, Nat.reduceBEq, s7], by simp (disch := first | (simp only [go_sem, gb0, eq_self]; done) | omega | (simp only [gl1, gl2]; omega)) only [go_sem, ↓reduceIte, Nat.reduceEqDiff, Nat.reduceAdd, Nat.reduceMul, Nat.reduceSub, Int.reduceToNat, Nat.reduceBEq, s8], fun k hk _ => by
      by_cases q : k = l
      · subst q; omega
      · exact hn2 k (by omega) c1⟩
theorem k49 {a : List (List Int)} {m n : Nat} (T : Tb a m n) {xs ys : List Int} {e : Int} (hx : xs.length = m) (Y : Sh ys e n) : ConW Try.prog cfg 49 h (some ([LLI a, LI xs, LI ys], h')) K = K (.bool (bestB a m n xs ys)) h := ConW_num (f49_con T hx Y) rfl
def equB (a b : List (List Int)) (m n : Nat) (xs ys : List Int) : Bool := bestB a m n xs ys && bestB (turnL b m n) n m ys xs
theorem f22_con {a b : List (List Int)} {m n : Nat} (T : Tb a m n) (T' : Tb b m n) {xs ys : List Int} {d e : Int} (X : Sh xs d m) (Y : Sh ys e n) : Con Try.prog cfg 22 [LLI a, LLI b, LI xs, LI ys] (.bool (equB a b m n xs ys)) := by
  have kk49 := fun h h' K => k49 (h := h) (h' := h') (K := K) T X.len Y
  have kk50 := fun h h' K => k50 (h := h) (h' := h') (K := K) T'.rc
  have kk49' := fun h h' K => k49 (h := h) (h' := h') (K := K) (turnL_Tb T') Y.len X
  cases c1 : bestB a m n xs ys with
  | false =>
    have hr : equB a b m n xs ys = false := by rw [equB, c1]; rfl
    rw [hr]
    refine Con_intro Try.func22 rfl ok22 (Nat.le_of_ble_eq_true rfl) rfl ?_
    simp only [Try.f22, Option.getD_some, initSt4]
    simp (disch := first | (simp only [go_sem, gb0, eq_self]; done) | omega | (simp only [gl1, gl2]; omega)) only [go_sem, ↓reduceIte, Nat.reduceEqDiff, Nat.reduceAdd, Nat.reduceMul, Nat.reduceSub, Int.reduceToNat, Nat.reduceBEq, kk49, c1]
  | true =>
    have hr : equB a b m n xs ys = bestB (turnL b m n) n m ys xs := by rw [equB, c1]; rfl
    rw [hr]
    refine Con_intro Try.func22 rfl ok22 (Nat.le_of_ble_eq_true rfl) rfl ?_
    simp only [Try.f22, Option.getD_some, initSt4]
    simp (disch := first | (simp only [go_sem, gb0, eq_self]; done) | omega | (simp only [gl1, gl2]; omega)) only [go_sem, ↓reduceIte, Nat.reduceEqDiff, Nat.reduceAdd, Nat.reduceMul, Nat.reduceSub, Int.reduceToNat, Nat.reduceBEq, kk49, c1, kk50, kk49']
end Go.Proofs.Ytcdpkgmkckfonaa

set_option linter.unusedVariables false
set_option linter.unusedSimpArgs false
set_option maxRecDepth 10000
namespace Go.Proofs.Ytcdpkgmkckfonaa
open Go Go.Am

variable {h h' : Hp} {K : AV → Hp → Prop}

theorem f24_con {a : List (List Int)} {m n : Nat} (T : Tb a m n) {xs ys : List Int} {d e : Int} (X : Sh xs d m) (Y : Sh ys e n) : Con Try.prog cfg 24 [LLI a, LI xs, I d, LI ys, I e] (FR (rdP (dotG a m n xs ys) (d * e))) := by
  have ml : maxLen = 9223372036854775807 := by decide
  have hm1 := T.m1
  have hm4 := T.m4
  have hal2 : ∀ (g : Hp) (x y : Int), allocB g (some (.agg [I x, I y])) = some (.ptr g.nx 0, g.alloc (.cells false false [I x, I y])) := fun g x y => allocB_agg _ rfl
  have kk51 := fun h h' K => k51 (h := h) (h' := h') (K := K) T.rc Y.len (Sh_prod T Y)
  have hgl := gainsL_len a m n ys
  have hxl := X.len
  have hpb := dotG_pb T X Y
  have hrb := fun i (hi : i < m) => rowG_b T Y hi
  have hx0 := X.n0
  have hx1 := X.n1
  have hd0 := X.d0
  have hd1 := X.d1
  have he0 := Y.d0
  have he1 := Y.d1
  have hde0 : 0 < d * e := Int.mul_pos (by omega) (by omega)
  have hde1 : d * e ≤ 16777216 * 16777216 := Int.mul_le_mul hd1 he1 (by omega) (by omega)
  have hdot : dotG a m n xs ys = sumN (fun i => rowG a n ys i * nth xs i) m := rfl
  rw [hdot]
  have hGn : ∀ i, i < m → nth (gainsL a m n ys) i = rowG a n ys i := fun i hi => gainsL_nth hi
  refine Con_intro Try.func24 rfl ok24 (Nat.le_of_ble_eq_true rfl) rfl ?_
  simp only [Try.f24, Option.getD_some, initSt5]
  simp (disch := first | (simp only [go_sem, gb0, eq_self]; done) | omega | (simp only [gl1, gl2]; omega)) only [go_sem, ↓reduceIte, Nat.reduceEqDiff, Nat.reduceAdd, Nat.reduceMul, Nat.reduceSub, Int.reduceToNat, Nat.reduceBEq, hal2, kk51]
  generalize gainsL a m n ys = G at *
  obtain ⟨gr, hgr⟩ : ∃ gr : Nat → Int, (fun i => rowG a n ys i) = gr := ⟨_, rfl⟩
  have hgr' : ∀ i, rowG a n ys i = gr i := fun i => congrFun hgr i
  simp only [hgr'] at hpb hrb hGn ⊢
  refine WP_for 13 m (fun i st h => st 1 = LI xs ∧ st 2 = I d ∧ st 4 = I e ∧ st 10 = .ptr 0 0 ∧ st 11 = LI G ∧ st 12 = I (sumN (fun i => gr i * nth xs i) i) ∧ h.bl 0 = some (.cells false false [I 0, I 0])) (by simp (disch := first | (simp only [go_sem, gb0, eq_self]; done) | omega | (simp only [gl1, gl2]; omega)) only [go_sem, ↓reduceIte, Nat.reduceEqDiff, Nat.reduceAdd, Nat.reduceMul, Nat.reduceSub, Int.reduceToNat, Nat.reduceBEq]) ⟨by simp (disch := first | (simp only [go_sem, gb0, eq_self]; done) | omega | (simp only [gl1, gl2]; omega)) only [go_sem, ↓reduceIte, Nat.reduceEqDiff, Nat.reduceAdd, Nat.reduceMul, Nat.reduceSub, Int.reduceToNat, Nat.reduceBEq], by simp (disch := first | (simp only [go_sem, gb0, eq_self]; done) | omega | (simp only [gl1, gl2]; omega)) only [go_sem, ↓reduceIte, Nat.reduceEqDiff, Nat.reduceAdd, Nat.reduceMul, Nat.reduceSub, Int.reduceToNat, Nat.reduceBEq], by simp (disch := first | (simp only [go_sem, gb0, eq_self]; done) | omega | (simp only [gl1, gl2]; omega)) only [go_sem, ↓reduceIte, Nat.reduceEqDiff, Nat.reduceAdd, Nat.reduceMul, Nat.reduceSub, Int.reduceToNat, Nat.reduceBEq], by simp (disch := first | (simp only [go_sem, gb0, eq_self]; done) | omega | (simp only [gl1, gl2]; omega)) only [go_sem, ↓reduceIte, Nat.reduceEqDiff, Nat.reduceAdd, Nat.reduceMul, Nat.reduceSub, Int.reduceToNat, Nat.reduceBEq], by simp (disch := first | (simp only [go_sem, gb0, eq_self]; done) | omega | (simp only [gl1, gl2]; omega)) only [go_sem, ↓reduceIte, Nat.reduceEqDiff, Nat.reduceAdd, Nat.reduceMul, Nat.reduceSub, Int.reduceToNat, Nat.reduceBEq], by simp (disch := first | (simp only [go_sem, gb0, eq_self]; done) | omega | (simp only [gl1, gl2]; omega)) only [go_sem, ↓reduceIte, Nat.reduceEqDiff, Nat.reduceAdd, Nat.reduceMul, Nat.reduceSub, Int.reduceToNat, Nat.reduceBEq]; rfl, by simp (disch := first | (simp only [go_sem, gb0, eq_self]; done) | omega | (simp only [gl1, gl2]; omega)) only [go_sem, ↓reduceIte, Nat.reduceEqDiff, Nat.reduceAdd, Nat.reduceMul, Nat.reduceSub, Int.reduceToNat, Nat.reduceBEq]⟩ ?_
  rintro i st h hi s13 ⟨s1, s2, s4, s10, s11, s12, b0⟩
  by_cases hlt : i < m
  case neg =>
    have hie : i = m := by omega
    subst hie
    have hb := hpb i (Nat.le_refl _)
    have k46' := fun h h' K => k46 (h := h) (h' := h') (K := K) (sumN (fun i => gr i * nth xs i) i) (d * e) (by simp only [big]; omega) (by simp only [big]; omega) (by omega)
    generalize hP : d * e = P at *
    simp (disch := first | (simp only [go_sem, gb0, eq_self]; done) | omega | (simp only [gl1, gl2]; omega)) only [go_sem, ↓reduceIte, Nat.reduceEqDiff, Nat.reduceAdd, Nat.reduceMul, Nat.reduceSub, Int.reduceToNat, Nat.reduceBEq, s1, s2, s4, s10, s11, s12, s13, hlt, hgl, b0, hP, k46']
    rfl
  have hix : i < xs.length := by omega
  have hig : i < G.length := by omega
  have hb := hpb i (by omega)
  have hst : sumN (fun i => gr i * nth xs i) (i + 1) = sumN (fun i => gr i * nth xs i) i + gr i * nth xs i := rfl
  have hcm : nth xs i * gr i = gr i * nth xs i := Int.mul_comm _ _
  have hpp : -22517998136852480 ≤ gr i * nth xs i ∧ gr i * nth xs i ≤ 22517998136852480 := by
    have h2 := hrb i hlt
    have h3 := hx0 i hlt
    have h4 := hx1 i hlt
    have a1 : gr i * nth xs i ≤ 1342177280 * nth xs i := Int.mul_le_mul_of_nonneg_right h2.2 h3
    have a2 : -1342177280 * nth xs i ≤ gr i * nth xs i := Int.mul_le_mul_of_nonneg_right h2.1 h3
    omega
  have hGi := hGn i hlt
  generalize hS : sumN (fun i => gr i * nth xs i) i = S0 at *
  generalize hp : gr i * nth xs i = p at *
  simp (disch := first | (simp only [go_sem, gb0, eq_self]; done) | omega | (simp only [gl1, gl2]; omega)) only [go_sem, ↓reduceIte, Nat.reduceEqDiff, Nat.reduceAdd, Nat.reduceMul, Nat.reduceSub, Int.reduceToNat, Nat.reduceBEq, s1, s2, s4, s10, s11, s12, s13, hlt, b0, hix, hig, hxl, hgl, hGi, hcm]
  rw [ForK_normal]
  exact ⟨hlt, by simp (disch := first | (simp only [go_sem, gb0, eq_self]; done) | omega | (simp only [gl1, gl2]; omega)) only [go_sem, ↓reduceIte, Nat.reduceEqDiff, Nat.reduceAdd, Nat.reduceMul, Nat.reduceSub, Int.reduceToNat, Nat.reduceBEq, s13], by simp (disch := first | (simp only [go_sem, gb0, eq_self]; done) | omega | (simp only [gl1, gl2]; omega)) only [go_sem, ↓reduceIte, Nat.reduceEqDiff, Nat.reduceAdd, Nat.reduceMul, Nat.reduceSub, Int.reduceToNat, Nat.reduceBEq, s1], by simp (disch := first | (simp only [go_sem, gb0, eq_self]; done) | omega | (simp only [gl1, gl2]; omega)) only [go_sem, ↓reduceIte, Nat.reduceEqDiff, Nat.reduceAdd, Nat.reduceMul, Nat.reduceSub, Int.reduceToNat, Nat.reduceBEq, s2], by simp (disch := first | (simp only [go_sem, gb0, eq_self]; done) | omega | (simp only [gl1, gl2]; omega)) only [go_sem, ↓reduceIte, Nat.reduceEqDiff, Nat.reduceAdd, Nat.reduceMul, Nat.reduceSub, Int.reduceToNat, Nat.reduceBEq, s4], by simp (disch := first | (simp only [go_sem, gb0, eq_self]; done) | omega | (simp only [gl1, gl2]; omega)) only [go_sem, ↓reduceIte, Nat.reduceEqDiff, Nat.reduceAdd, Nat.reduceMul, Nat.reduceSub, Int.reduceToNat, Nat.reduceBEq, s10], by simp (disch := first | (simp only [go_sem, gb0, eq_self]; done) | omega | (simp only [gl1, gl2]; omega)) only [go_sem, ↓reduceIte, Nat.reduceEqDiff, Nat.reduceAdd, Nat.reduceMul, Nat.reduceSub, Int.reduceToNat, Nat.reduceBEq, s11], by simp (disch := first | (simp only [go_sem, gb0, eq_self]; done) | omega | (simp only [gl1, gl2]; omega)) only [go_sem, ↓reduceIte, Nat.reduceEqDiff, Nat.reduceAdd, Nat.reduceMul, Nat.reduceSub, Int.reduceToNat, Nat.reduceBEq, hst], by simp (disch := first | (simp only [go_sem, gb0, eq_self]; done) | omega | (simp only [gl1, gl2]; omega)) only [go_sem, ↓reduceIte, Nat.reduceEqDiff, Nat.reduceAdd, Nat.reduceMul, Nat.reduceSub, Int.reduceToNat, Nat.reduceBEq, b0]⟩
/-! ### Mix -/
def mx1R (n : Nat) (l : List (Int × Int)) : AV := if mixB n l then .tup [LI (numL l), I (denL l), .bool (decide (sumF l = denL l))] else .tup [LI [], I 0, .bool false]
theorem f21_con (l : List (Int × Int)) (hl : l.length ≤ maxLen) (h64 : ∀ f ∈ l, f.2 ≤ 9223372036854775807) (acts : Nat) (h1 : 1 ≤ acts) (h4 : acts ≤ 4) : Con Try.prog cfg 21 [I acts, LP l] (mx1R acts l) := by
  have ml : maxLen = 9223372036854775807 := by decide
  by_cases hc : l.length = acts
  case neg =>
    have hr : mx1R acts l = .tup [LI [], I 0, .bool false] := by rw [mx1R, mixB, decide_eq_false hc]; rfl
    have hc' : ¬ (l.length : Int) = acts := by omega
    rw [hr]
    refine Con_intro Try.func21 rfl ok21 (Nat.le_of_ble_eq_true rfl) rfl ?_
    simp only [Try.f21, Option.getD_some, initSt2]
    simp (disch := first | (simp only [go_sem, gb0, eq_self]; done) | omega | (simp only [gl1, gl2]; omega)) only [go_sem, ↓reduceIte, Nat.reduceEqDiff, Nat.reduceAdd, Nat.reduceMul, Nat.reduceSub, Int.reduceToNat, Nat.reduceBEq, hc']
    rfl
  have hc' : (l.length : Int) = acts := by omega
  have hmb : mixB acts l = preB l := by rw [mixB, decide_eq_true hc]; rfl
  refine Con_intro Try.func21 rfl ok21 (Nat.le_of_ble_eq_true rfl) rfl ?_
  simp only [Try.f21, Option.getD_some, initSt2]
  simp (disch := first | (simp only [go_sem, gb0, eq_self]; done) | omega | (simp only [gl1, gl2]; omega)) only [go_sem, ↓reduceIte, Nat.reduceEqDiff, Nat.reduceAdd, Nat.reduceMul, Nat.reduceSub, Int.reduceToNat, Nat.reduceBEq, hc', eq_self, decide_true, Bool.not_true]
  refine WP_cut (fun st h => st 0 = I acts ∧ st 1 = LP l ∧ st 7 = I (denL l) ∧ preB l = true) ?_ ?_
  · refine WP_for 8 acts (fun j st h => st 0 = I acts ∧ st 1 = LP l ∧ st 7 = I (denN l j) ∧ ∀ k, k < j → stepB l k = true) (by simp (disch := first | (simp only [go_sem, gb0, eq_self]; done) | omega | (simp only [gl1, gl2]; omega)) only [go_sem, ↓reduceIte, Nat.reduceEqDiff, Nat.reduceAdd, Nat.reduceMul, Nat.reduceSub, Int.reduceToNat, Nat.reduceBEq]) ⟨by simp (disch := first | (simp only [go_sem, gb0, eq_self]; done) | omega | (simp only [gl1, gl2]; omega)) only [go_sem, ↓reduceIte, Nat.reduceEqDiff, Nat.reduceAdd, Nat.reduceMul, Nat.reduceSub, Int.reduceToNat, Nat.reduceBEq], by simp (disch := first | (simp only [go_sem, gb0, eq_self]; done) | omega | (simp only [gl1, gl2]; omega)) only [go_sem, ↓reduceIte, Nat.reduceEqDiff, Nat.reduceAdd, Nat.reduceMul, Nat.reduceSub, Int.reduceToNat, Nat.reduceBEq], by simp (disch := first | (simp only [go_sem, gb0, eq_self]; done) | omega | (simp only [gl1, gl2]; omega)) only [go_sem, ↓reduceIte, Nat.reduceEqDiff, Nat.reduceAdd, Nat.reduceMul, Nat.reduceSub, Int.reduceToNat, Nat.reduceBEq]; rfl, fun k hk => by omega⟩ ?_
    rintro j st h hj s8 ⟨s0, s1, s7, hpre⟩
    by_cases hlt : j < acts
    case neg =>
      have hje : j = acts := by omega
      subst hje
      simp (disch := first | (simp only [go_sem, gb0, eq_self]; done) | omega | (simp only [gl1, gl2]; omega)) only [go_sem, ↓reduceIte, Nat.reduceEqDiff, Nat.reduceAdd, Nat.reduceMul, Nat.reduceSub, Int.reduceToNat, Nat.reduceBEq, s0, s1, s7, s8, hlt]
      rw [← hc] at hpre ⊢
      exact ⟨rfl, List.all_eq_true.2 fun k hk => hpre k (List.mem_range.1 hk)⟩
    have hjl : j < l.length := by omega
    have hok : ∀ i, i < j → okF (nth l i) = true := fun i hi => by
      have := hpre i hi
      simp only [stepB, Bool.and_eq_true] at this
      exact this.1
    have hd0 := denN_pos j hok
    have hd1 : denN l j ≤ 16777216 := by
      cases j with
      | zero => exact show (1 : Int) ≤ 16777216 by decide
      | succ j =>
        have := hpre j (by omega)
        simp only [stepB, Bool.and_eq_true, decide_eq_true_eq] at this
        exact this.2
    have fin : stepB l j = false → preB l = false := fun h => by
      rw [preB, List.all_eq_false]
      exact ⟨j, List.mem_range.2 hjl, by rw [h]; decide⟩
    have hno : stepB l j = false → mx1R acts l = .tup [LI [], I 0, .bool false] := fun h => by rw [mx1R, hmb, fin h]; rfl
    have hst : denN l (j + 1) = denN l j / gcdI (denN l j) (nth l j).2 * (nth l j).2 := rfl
    have hsb : stepB l j = (okF (nth l j) && decide (denN l (j + 1) ≤ 16777216)) := rfl
    have k47 := fun h h' K => ConW_num (h := h) (h' := h') (K := K) (f47_con (nth l j) (h64 _ (nth_mem hjl))) rfl
    obtain ⟨f, hf⟩ : ∃ f, nth l j = f := ⟨_, rfl⟩
    rw [hf] at hst hsb k47
    cases cv : vldB f with
    | false =>
      have hr := hno (by
        rw [hsb, okF, inB]
        simp only [vldB, Bool.and_eq_false_iff, decide_eq_false_iff_not] at cv
        rcases cv with q | q
        · rw [decide_eq_false q]; simp
        · rw [decide_eq_false q]; simp)
      rw [hr]
      simp (disch := first | (simp only [go_sem, gb0, eq_self]; done) | omega | (simp only [gl1, gl2]; omega)) only [go_sem, ↓reduceIte, Nat.reduceEqDiff, Nat.reduceAdd, Nat.reduceMul, Nat.reduceSub, Int.reduceToNat, Nat.reduceBEq, s0, s1, s7, s8, hlt, hjl, hf, k47, cv]
      rfl
    | true =>
    have cv' := cv
    simp only [vldB, Bool.and_eq_true, decide_eq_true_eq] at cv'
    by_cases c1 : f.1 < 0
    · have hr := hno (by rw [hsb, okF, decide_eq_false (show ¬ 0 ≤ f.1 by omega)]; rfl)
      rw [hr]
      simp (disch := first | (simp only [go_sem, gb0, eq_self]; done) | omega | (simp only [gl1, gl2]; omega)) only [go_sem, ↓reduceIte, Nat.reduceEqDiff, Nat.reduceAdd, Nat.reduceMul, Nat.reduceSub, Int.reduceToNat, Nat.reduceBEq, s0, s1, s7, s8, hlt, hjl, hf, k47, cv, c1]
      rfl
    have c1' := decide_eq_true (show 0 ≤ f.1 by omega)
    by_cases c3 : f.2 < f.1
    · have hr := hno (by rw [hsb, okF, decide_eq_false (show ¬ f.1 ≤ f.2 by omega)]; simp)
      rw [hr]
      simp (disch := first | (simp only [go_sem, gb0, eq_self]; done) | omega | (simp only [gl1, gl2]; omega)) only [go_sem, ↓reduceIte, Nat.reduceEqDiff, Nat.reduceAdd, Nat.reduceMul, Nat.reduceSub, Int.reduceToNat, Nat.reduceBEq, s0, s1, s7, s8, hlt, hjl, hf, k47, cv, c1, c3, List.drop_succ_cons]
      rfl
    by_cases c2 : 16777216 < f.2
    · have hr := hno (by rw [hsb, okF, inB, decide_eq_false (show ¬ f.2 ≤ 16777216 by omega)]; simp)
      rw [hr]
      simp (disch := first | (simp only [go_sem, gb0, eq_self]; done) | omega | (simp only [gl1, gl2]; omega)) only [go_sem, ↓reduceIte, Nat.reduceEqDiff, Nat.reduceAdd, Nat.reduceMul, Nat.reduceSub, Int.reduceToNat, Nat.reduceBEq, s0, s1, s7, s8, hlt, hjl, hf, k47, cv, c1, c3, c2, List.drop_succ_cons]
      rfl
    have hokf : okF f = true := okFP_B ⟨by omega, cv'.1, by omega, by omega, cv'.2⟩
    obtain ⟨D', hD'⟩ : ∃ D', denN l (j + 1) = D' := ⟨_, rfl⟩
    rw [hD'] at hst hsb
    generalize hD : denN l j = D at *
    have kg2 := fun h h' K => k48 (h := h) (h' := h') (K := K) D f.2 (by omega) (by omega)
    have hg := gcdI_pos (a := D) (b := f.2) (by omega)
    have t1 := tdiv_gcd_l D f.2
    have q0 : 0 ≤ D / gcdI D f.2 := Int.ediv_nonneg (by omega) (by omega)
    have q1 : D / gcdI D f.2 ≤ D := Int.ediv_le_self _ (by omega)
    have g0 : ¬ gcdI D f.2 = 0 := by omega
    have p0 : 0 ≤ D / gcdI D f.2 * f.2 := Int.mul_nonneg q0 (by omega)
    have p1 : D / gcdI D f.2 * f.2 ≤ 16777216 * 16777216 := Int.mul_le_mul (by omega) (by omega) (by omega) (by omega)
    rw [← hst] at p0 p1
    by_cases c5 : 16777216 < D'
    · have hr := hno (by rw [hsb, hokf, decide_eq_false (show ¬ D' ≤ 16777216 by omega)]; rfl)
      rw [hr]
      generalize D / gcdI D f.2 = q at *
      generalize gcdI D f.2 = g at *
      simp (disch := first | (simp only [go_sem, gb0, eq_self]; done) | omega | (simp only [gl1, gl2]; omega)) only [go_sem, ↓reduceIte, Nat.reduceEqDiff, Nat.reduceAdd, Nat.reduceMul, Nat.reduceSub, Int.reduceToNat, Nat.reduceBEq, s0, s1, s7, s8, hlt, hjl, hf, k47, cv, c1, c3, c2, kg2, t1, g0, ← hst, c5, List.drop_succ_cons]
      rfl
    have hsb' : stepB l j = true := by rw [hsb, hokf, decide_eq_true (show D' ≤ 16777216 by omega)]; rfl
    generalize D / gcdI D f.2 = q at *
    generalize gcdI D f.2 = g at *
    simp (disch := first | (simp only [go_sem, gb0, eq_self]; done) | omega | (simp only [gl1, gl2]; omega)) only [go_sem, ↓reduceIte, Nat.reduceEqDiff, Nat.reduceAdd, Nat.reduceMul, Nat.reduceSub, Int.reduceToNat, Nat.reduceBEq, s0, s1, s7, s8, hlt, hjl, hf, k47, cv, c1, c3, c2, kg2, t1, g0, ← hst, c5, List.drop_succ_cons]
    rw [ForK_normal]
    refine ⟨hlt, by simp (disch := first | (simp only [go_sem, gb0, eq_self]; done) | omega | (simp only [gl1, gl2]; omega)) only [go_sem, ↓reduceIte, Nat.reduceEqDiff, Nat.reduceAdd, Nat.reduceMul, Nat.reduceSub, Int.reduceToNat, Nat.reduceBEq, s8], by simp (disch := first | (simp only [go_sem, gb0, eq_self]; done) | omega | (simp only [gl1, gl2]; omega)) only [go_sem, ↓reduceIte, Nat.reduceEqDiff, Nat.reduceAdd, Nat.reduceMul, Nat.reduceSub, Int.reduceToNat, Nat.reduceBEq, s0], by simp (disch := first | (simp only [go_sem, gb0, eq_self]; done) | omega | (simp only [gl1, gl2]; omega)) only [go_sem, ↓reduceIte, Nat.reduceEqDiff, Nat.reduceAdd, Nat.reduceMul, Nat.reduceSub, Int.reduceToNat, Nat.reduceBEq, s1], by simp (disch := first | (simp only [go_sem, gb0, eq_self]; done) | omega | (simp only [gl1, gl2]; omega)) only [go_sem, ↓reduceIte, Nat.reduceEqDiff, Nat.reduceAdd, Nat.reduceMul, Nat.reduceSub, Int.reduceToNat, Nat.reduceBEq, hD', hst], fun k hk => ?_⟩
    by_cases q : k = j
    · subst q; exact hsb'
    · exact hpre k (by omega)
  rintro st h ⟨s0, s1, s7, hpb⟩
  obtain ⟨hll, hokf, hD0, hD1⟩ := mixB_den h1 (hmb.trans hpb)
  have hr : mx1R acts l = .tup [LI (numL l), I (denL l), .bool (decide (sumF l = denL l))] := by rw [mx1R, hmb, hpb]; rfl
  have hnl : numL l = (List.range acts).map (numF l (denL l)) := by rw [← hc]; rfl
  have hsf : sumF l = sumN (numF l (denL l)) acts := by rw [sumF, hc]
  have hnb : ∀ i, i < acts → 0 ≤ numF l (denL l) i ∧ numF l (denL l) i ≤ 281474976710656 := fun i hi => by
    have f := hokf i hi
    have q0 : 0 ≤ denL l / (nth l i).2 := Int.ediv_nonneg (by omega) (by have := f.d1; omega)
    have q1 : denL l / (nth l i).2 ≤ denL l := Int.ediv_le_self _ (by omega)
    refine ⟨Int.mul_nonneg f.n0 q0, ?_⟩
    have := Int.mul_le_mul (show (nth l i).1 ≤ 16777216 by have := f.le; have := f.d2; omega) (show denL l / (nth l i).2 ≤ 16777216 by omega) q0 (by omega)
    show (nth l i).1 * (denL l / (nth l i).2) ≤ _
    omega
  have hnf : ∀ i, numF l (denL l) i = (nth l i).1 * (denL l / (nth l i).2) := fun i => rfl
  rw [hr, hnl, hsf]
  generalize denL l = D at *
  simp (disch := first | (simp only [go_sem, gb0, eq_self]; done) | omega | (simp only [gl1, gl2]; omega)) only [go_sem, ↓reduceIte, Nat.reduceEqDiff, Nat.reduceAdd, Nat.reduceMul, Nat.reduceSub, Int.reduceToNat, Nat.reduceBEq, s0, s1, s7]
  refine WP_for 11 acts (fun j st h => st 0 = I acts ∧ st 1 = LP l ∧ st 7 = I D ∧ st 10 = I (sumN (numF l D) j) ∧ ∃ v, st 9 = v ∧ Go.Am.Own (e1 I) 1 h v ((List.range j).map (numF l D))) (by simp (disch := first | (simp only [go_sem, gb0, eq_self]; done) | omega | (simp only [gl1, gl2]; omega)) only [go_sem, ↓reduceIte, Nat.reduceEqDiff, Nat.reduceAdd, Nat.reduceMul, Nat.reduceSub, Int.reduceToNat, Nat.reduceBEq])
    ⟨by simp (disch := first | (simp only [go_sem, gb0, eq_self]; done) | omega | (simp only [gl1, gl2]; omega)) only [go_sem, ↓reduceIte, Nat.reduceEqDiff, Nat.reduceAdd, Nat.reduceMul, Nat.reduceSub, Int.reduceToNat, Nat.reduceBEq, s0, s1], by simp (disch := first | (simp only [go_sem, gb0, eq_self]; done) | omega | (simp only [gl1, gl2]; omega)) only [go_sem, ↓reduceIte, Nat.reduceEqDiff, Nat.reduceAdd, Nat.reduceMul, Nat.reduceSub, Int.reduceToNat, Nat.reduceBEq, s0, s1], by simp (disch := first | (simp only [go_sem, gb0, eq_self]; done) | omega | (simp only [gl1, gl2]; omega)) only [go_sem, ↓reduceIte, Nat.reduceEqDiff, Nat.reduceAdd, Nat.reduceMul, Nat.reduceSub, Int.reduceToNat, Nat.reduceBEq, s7], by simp (disch := first | (simp only [go_sem, gb0, eq_self]; done) | omega | (simp only [gl1, gl2]; omega)) only [go_sem, ↓reduceIte, Nat.reduceEqDiff, Nat.reduceAdd, Nat.reduceMul, Nat.reduceSub, Int.reduceToNat, Nat.reduceBEq]; rfl, .nil, by simp (disch := first | (simp only [go_sem, gb0, eq_self]; done) | omega | (simp only [gl1, gl2]; omega)) only [go_sem, ↓reduceIte, Nat.reduceEqDiff, Nat.reduceAdd, Nat.reduceMul, Nat.reduceSub, Int.reduceToNat, Nat.reduceBEq], .inl ⟨rfl, rfl⟩⟩ ?_
  clear s0 s1 s7 h
  rintro j st h hj s11 ⟨s0, s1, s7, s10, v, s9, ov⟩
  by_cases hlt : j < acts
  case neg =>
    have hje : j = acts := by omega
    subst hje
    obtain ⟨g1, z1, n1, b1⟩ := sealA_Own ov
    simp (disch := first | (simp only [go_sem, gb0, eq_self]; done) | omega | (simp only [gl1, gl2]; omega)) only [go_sem, ↓reduceIte, Nat.reduceEqDiff, Nat.reduceAdd, Nat.reduceMul, Nat.reduceSub, Int.reduceToNat, Nat.reduceBEq, s0, s1, s7, s9, s10, s11, hlt, z1]
  have hjl : j < l.length := by omega
  have hf := hokf j hlt
  have hnj := hnb j hlt
  have hfj := hnf j
  have hsum := sumN_bounds (f := numF l D) (lo := 0) (hi := 281474976710656) (n := j) fun i hi => hnb i (by omega)
  have hss : sumN (numF l D) (j + 1) = sumN (numF l D) j + numF l D j := rfl
  have hd1 := hf.d1
  have hd0 : ¬ (nth l j).2 = 0 := by omega
  have td : D.tdiv (nth l j).2 = D / (nth l j).2 := Int.tdiv_eq_ediv_of_nonneg (by omega)
  have q0 : 0 ≤ D / (nth l j).2 := Int.ediv_nonneg (by omega) (by omega)
  have q1 : D / (nth l j).2 ≤ D := Int.ediv_le_self _ (by omega)
  have hbs := fun h : Hp => bsB_one (P := Try.prog) (h := h) 3 (I (numF l D j)) (I (numF l D j)) (I 0) h isz3 izero3 rfl rfl rfl rfl rfl rfl rfl
  have happ := app_one (P := Try.prog) ov 3 8 (I 0) (numF l D j) isz3 ibytes3 izero3 rfl (by simp; omega) (by simp; omega)
  have hfj' : (nth l j).1 * (D / (nth l j).2) = numF l D j := hfj.symm
  generalize sumN (numF l D) j = S at *
  generalize D / (nth l j).2 = q at *
  generalize hnfj : numF l D j = nf at *
  simp (disch := first | (simp only [go_sem, gb0, eq_self]; done) | omega | (simp only [gl1, gl2]; omega)) only [go_sem, ↓reduceIte, Nat.reduceEqDiff, Nat.reduceAdd, Nat.reduceMul, Nat.reduceSub, Int.reduceToNat, Nat.reduceBEq, s0, s1, s7, s9, s10, s11, hlt, hjl, hd0, td, hfj', hbs, happ, List.drop_succ_cons]
  rw [ForK_normal]
  refine ⟨hlt, by simp (disch := first | (simp only [go_sem, gb0, eq_self]; done) | omega | (simp only [gl1, gl2]; omega)) only [go_sem, ↓reduceIte, Nat.reduceEqDiff, Nat.reduceAdd, Nat.reduceMul, Nat.reduceSub, Int.reduceToNat, Nat.reduceBEq, s11], by simp (disch := first | (simp only [go_sem, gb0, eq_self]; done) | omega | (simp only [gl1, gl2]; omega)) only [go_sem, ↓reduceIte, Nat.reduceEqDiff, Nat.reduceAdd, Nat.reduceMul, Nat.reduceSub, Int.reduceToNat, Nat.reduceBEq, s0], by simp (disch := first | (simp only [go_sem, gb0, eq_self]; done) | omega | (simp only [gl1, gl2]; omega)) only [go_sem, ↓reduceIte, Nat.reduceEqDiff, Nat.reduceAdd, Nat.reduceMul, Nat.reduceSub, Int.reduceToNat, Nat.reduceBEq, s1], by simp (disch := first | (simp only [go_sem, gb0, eq_self]; done) | omega | (simp only [gl1, gl2]; omega)) only [go_sem, ↓reduceIte, Nat.reduceEqDiff, Nat.reduceAdd, Nat.reduceMul, Nat.reduceSub, Int.reduceToNat, Nat.reduceBEq, s7], by simp (disch := first | (simp only [go_sem, gb0, eq_self]; done) | omega | (simp only [gl1, gl2]; omega)) only [go_sem, ↓reduceIte, Nat.reduceEqDiff, Nat.reduceAdd, Nat.reduceMul, Nat.reduceSub, Int.reduceToNat, Nat.reduceBEq, s10, hss], _, by simp (disch := first | (simp only [go_sem, gb0, eq_self]; done) | omega | (simp only [gl1, gl2]; omega)) only [go_sem, ↓reduceIte, Nat.reduceEqDiff, Nat.reduceAdd, Nat.reduceMul, Nat.reduceSub, Int.reduceToNat, Nat.reduceBEq]; rfl, ?_⟩
  rw [← rows_snoc, hnfj]; exact Own.app _ _ _
/-! ### The laws' copies -/
def tabRow (a : List (List Int)) (i : Nat) : List Int := (nth a i).take (min (nth a i).length 6)
def tabM (a : List (List Int)) : List (List Int) := (List.range (min a.length 6)).map (tabRow a)
theorem tabM_ok (a : List (List Int)) : okLL (tabM a) := by
  have ml : maxLen = 9223372036854775807 := by decide
  refine ⟨by simp [tabM]; omega, fun l hl => ?_⟩
  obtain ⟨i, _, rfl⟩ := List.mem_map.1 hl
  simp [tabRow]; omega
theorem f15_con (l : List (List Int)) (hl : okLL l) : Con Try.prog cfg 15 [LLI l] (LLI (tabM l)) := by
  have ml : maxLen = 9223372036854775807 := by decide
  have hll := hl.len
  refine Con_intro Try.func15 rfl ok15 (Nat.le_of_ble_eq_true rfl) rfl ?_
  simp only [Try.f15, Option.getD_some, initSt1]
  simp (disch := first | (simp only [go_sem, gb0, eq_self]; done) | omega | (simp only [gl1, gl2]; omega)) only [go_sem, ↓reduceIte, Nat.reduceEqDiff, Nat.reduceAdd, Nat.reduceMul, Nat.reduceSub, Int.reduceToNat, Nat.reduceBEq]
  refine WP_cut (fun st h => ∃ v, st 3 = v ∧ Go.Am.Own (e1 LI) 1 h v (tabM l)) ?_ ?_
  · refine WP_for 4 (min l.length 6) (fun i st h => st 0 = LLI l ∧ ∃ v, st 3 = v ∧ Go.Am.Own (e1 LI) 1 h v ((List.range i).map (tabRow l))) (by simp (disch := first | (simp only [go_sem, gb0, eq_self]; done) | omega | (simp only [gl1, gl2]; omega)) only [go_sem, ↓reduceIte, Nat.reduceEqDiff, Nat.reduceAdd, Nat.reduceMul, Nat.reduceSub, Int.reduceToNat, Nat.reduceBEq]) ⟨by simp (disch := first | (simp only [go_sem, gb0, eq_self]; done) | omega | (simp only [gl1, gl2]; omega)) only [go_sem, ↓reduceIte, Nat.reduceEqDiff, Nat.reduceAdd, Nat.reduceMul, Nat.reduceSub, Int.reduceToNat, Nat.reduceBEq], .nil, by simp (disch := first | (simp only [go_sem, gb0, eq_self]; done) | omega | (simp only [gl1, gl2]; omega)) only [go_sem, ↓reduceIte, Nat.reduceEqDiff, Nat.reduceAdd, Nat.reduceMul, Nat.reduceSub, Int.reduceToNat, Nat.reduceBEq], .inl ⟨rfl, rfl⟩⟩ ?_
    rintro i st h hi s4 ⟨s0, v, s3, how⟩
    by_cases hlt : i < l.length
    case neg =>
      have hie : i = min l.length 6 := by omega
      rw [hie] at how
      simp (disch := first | (simp only [go_sem, gb0, eq_self]; done) | omega | (simp only [gl1, gl2]; omega)) only [go_sem, ↓reduceIte, Nat.reduceEqDiff, Nat.reduceAdd, Nat.reduceMul, Nat.reduceSub, Int.reduceToNat, Nat.reduceBEq, s4, s0, s3, hlt]
      exact ⟨_, rfl, how⟩
    by_cases h8 : (i : Int) < 6
    case neg =>
      have hie : i = min l.length 6 := by omega
      rw [hie] at how
      simp (disch := first | (simp only [go_sem, gb0, eq_self]; done) | omega | (simp only [gl1, gl2]; omega)) only [go_sem, ↓reduceIte, Nat.reduceEqDiff, Nat.reduceAdd, Nat.reduceMul, Nat.reduceSub, Int.reduceToNat, Nat.reduceBEq, s4, s0, s3, hlt, h8]
      exact ⟨_, rfl, how⟩
    have hrl := hl.row _ (nth_mem hlt)
    have hmin : min ((nth l i).length : Int) 6 = ((min (nth l i).length 6 : Nat) : Int) := by omega
    have htl : (tabRow l i).length = min (nth l i).length 6 := by rw [tabRow, List.length_take]; omega
    have hrow : (nth l i).take (min (nth l i).length 6) = tabRow l i := rfl
    have happ1 := app_nil (P := Try.prog) (h := h) (f := e1 I) 3 8 (I 0) (LI (tabRow l i)) (tabRow l i) isz3 ibytes3 izero3 rfl (cellsOf_L _ _) (lenA_L _ _) (by omega) (by omega)
    have hse : sealA (h.alloc (.cells false true ((tabRow l i).flatMap (e1 I)))) (.sl h.nx 0 (tabRow l i).length 1) = some (LI (tabRow l i), (h.alloc (.cells false true ((tabRow l i).flatMap (e1 I)))).put h.nx (some (.cells true true ((tabRow l i).flatMap (e1 I))))) := by
      simp (disch := first | (simp only [go_sem, gb0, eq_self]; done) | omega | (simp only [gl1, gl2]; omega)) only [go_sem, ↓reduceIte, Nat.reduceEqDiff, Nat.reduceAdd, Nat.reduceMul, Nat.reduceSub, Int.reduceToNat, Nat.reduceBEq]
    have hbs := bsB_one (P := Try.prog) 31 _ (LI (tabRow l i)) .nil _ isz31 izero31 rfl rfl rfl hse rfl rfl (pure_L _)
    have how2 : Go.Am.Own (e1 LI) 1 ((h.alloc (.cells false true ((tabRow l i).flatMap (e1 I)))).put h.nx (some (.cells true true ((tabRow l i).flatMap (e1 I))))) v ((List.range i).map (tabRow l)) :=
      how.mono (by rw [put_nx, alloc_nx]; omega) fun q hq => by rw [put_bl, if_neg (by omega), alloc_bl, if_neg (by omega)]
    have happ := app_one (P := Try.prog) how2 31 24 .nil (tabRow l i) isz31 ibytes31 izero31 rfl (by simp; omega) (by simp; omega)
    simp (disch := first | (simp only [go_sem, gb0, eq_self]; done) | omega | (simp only [gl1, gl2]; omega)) only [go_sem, ↓reduceIte, Nat.reduceEqDiff, Nat.reduceAdd, Nat.reduceMul, Nat.reduceSub, Int.reduceToNat, Nat.reduceBEq, s4, s0, s3, hlt, h8, hmin, hrow, happ1, hbs, happ]
    rw [ForK_normal]
    refine ⟨by omega, by simp (disch := first | (simp only [go_sem, gb0, eq_self]; done) | omega | (simp only [gl1, gl2]; omega)) only [go_sem, ↓reduceIte, Nat.reduceEqDiff, Nat.reduceAdd, Nat.reduceMul, Nat.reduceSub, Int.reduceToNat, Nat.reduceBEq, s4], by simp (disch := first | (simp only [go_sem, gb0, eq_self]; done) | omega | (simp only [gl1, gl2]; omega)) only [go_sem, ↓reduceIte, Nat.reduceEqDiff, Nat.reduceAdd, Nat.reduceMul, Nat.reduceSub, Int.reduceToNat, Nat.reduceBEq, s0], _, by simp (disch := first | (simp only [go_sem, gb0, eq_self]; done) | omega | (simp only [gl1, gl2]; omega)) only [go_sem, ↓reduceIte, Nat.reduceEqDiff, Nat.reduceAdd, Nat.reduceMul, Nat.reduceSub, Int.reduceToNat, Nat.reduceBEq]; rfl, ?_⟩
    rw [← rows_snoc]
    exact Own.app _ _ _
  · rintro st h ⟨v, s3, how⟩
    simp (disch := first | (simp only [go_sem, gb0, eq_self]; done) | omega | (simp only [gl1, gl2]; omega)) only [go_sem, ↓reduceIte, Nat.reduceEqDiff, Nat.reduceAdd, Nat.reduceMul, Nat.reduceSub, Int.reduceToNat, Nat.reduceBEq, s3]
    exact export_Own (f := e1 LI) 22 how
def lisM (l : List (Int × Int)) : List (Int × Int) := l.take (min l.length 6)
theorem f33_con (l : List (Int × Int)) (hl : l.length ≤ maxLen) : Con Try.prog cfg 33 [LP l] (LP (lisM l)) := by
  have ml : maxLen = 9223372036854775807 := by decide
  have hmin : min (l.length : Int) 6 = ((min l.length 6 : Nat) : Int) := by omega
  have htl : (lisM l).length = min l.length 6 := by rw [lisM, List.length_take]; omega
  have hrow : l.take (min l.length 6) = lisM l := rfl
  have happ1 := fun h => app_nil (P := Try.prog) (h := h) (f := eP) 28 16 (.agg [I 0, I 0]) (LP (lisM l)) (lisM l) isz28 ibytes28 izero28 rfl (cellsOf_L _ _) (lenA_L _ _) (by omega) (by omega)
  refine Con_intro Try.func33 rfl ok33 (Nat.le_of_ble_eq_true rfl) rfl ?_
  simp only [Try.f33, Option.getD_some, initSt1]
  simp (disch := first | (simp only [go_sem, gb0, eq_self]; done) | omega | (simp only [gl1, gl2]; omega)) only [go_sem, ↓reduceIte, Nat.reduceEqDiff, Nat.reduceAdd, Nat.reduceMul, Nat.reduceSub, Int.reduceToNat, Nat.reduceBEq, hmin, hrow, happ1]
  exact export_Own (f := eP) 39 (.inr ⟨0, rfl, Nat.lt_succ_self 0, rfl⟩)
end Go.Proofs.Ytcdpkgmkckfonaa

set_option linter.unusedVariables false
set_option linter.unusedSimpArgs false
set_option maxRecDepth 10000
namespace Go.Proofs.Ytcdpkgmkckfonaa
open Go Go.Am

variable {h h' : Hp} {K : AV → Hp → Prop}

/-- A set of acts as the program holds it. -/
def pad8 (s : List Bool) : List Bool := fillR 8 (onB s) false s.length
def actsA (s : List Bool) : AV := .agg ((pad8 s).flatMap (e1 AV.bool))
theorem pad8_len (s : List Bool) : (pad8 s).length = 8 := fillR_len _ _ _ _
theorem pad8_nth {s : List Bool} {k : Nat} (hk : k < s.length) (h8 : s.length ≤ 8) : nth (pad8 s) k = onB s k := by
  rw [pad8, fillR_nth (by omega), if_pos hk]
/-- The equation of a label; its right side stands in column 4. -/
def rowL (a : List (List Int)) (m l c : Nat) : Int := if l < m then (if c = l then 1 else 0) else if c < m then PT a c (l - m) else if c = 4 then 1 else 0
/-- The equations of the first labels. -/
def XP (a : List (List Int)) (m : Nat) (s : List Bool) (k : Nat) : Mat := fun r c => if r < cardB (s.take k) then rowL a m (posB s r) c else 0
def XS (a : List (List Int)) (m : Nat) (s : List Bool) : Mat := XP a m s s.length
def den0 (a : List (List Int)) (m : Nat) (s : List Bool) : Int := det m (repM (XS a m s) (-1))
def num0 (a : List (List Int)) (m : Nat) (s : List Bool) (i : Nat) : Int := det m (repM (XS a m s) i)
def nums0 (a : List (List Int)) (m : Nat) (s : List Bool) : List Int := (List.range m).map (num0 a m s)
def numsC (a : List (List Int)) (m : Nat) (s : List Bool) : List Int := (List.range m).map fun i => if den0 a m s < 0 then - num0 a m s i else num0 a m s i
def denC (a : List (List Int)) (m : Nat) (s : List Bool) : Int := if den0 a m s < 0 then - den0 a m s else den0 a m s
def okCor (a : List (List Int)) (m n : Nat) (s : List Bool) : Bool := !decide (den0 a m s = 0) && okLab a m n (numsC a m s) (denC a m s)
def corA (xs : List Int) (d : Int) (bs : List Bool) : AV := .agg (LI xs :: I d :: bs.flatMap (e1 AV.bool))
def corOf (a : List (List Int)) (m n : Nat) (s : List Bool) : AV := corA (numsC a m s) (sumC m (numsC a m s)) (labC a m n (numsC a m s) (denC a m s))

theorem rowL_b {a : List (List Int)} {m n : Nat} (T : Tb a m n) {l c : Nat} (hl : l < m + n) : absI (rowL a m l c) ≤ 41 := by
  unfold rowL
  split
  · split <;> decide
  · split
    · have := PT_b T (i := c) (j := l - m) (by omega) (by omega)
      unfold absI; omega
    · split <;> decide
theorem XP_b {a : List (List Int)} {m n : Nat} (T : Tb a m n) {s : List Bool} (hl : s.length = m + n) (k r c : Nat) : absI (XP a m s k r c) ≤ 41 := by
  unfold XP
  split
  · rename_i h
    have hle : cardB (s.take k) ≤ cardB s := List.Sublist.count_le _ (List.take_sublist k s)
    have := (posB_lt (s := s) (k := r) (by omega)).1
    exact rowL_b T (by omega)
  · decide
theorem num0_b {a : List (List Int)} {m n : Nat} (T : Tb a m n) {s : List Bool} (hl : s.length = m + n) (i : Int) : -723394816 ≤ det m (repM (XS a m s) i) ∧ det m (repM (XS a m s) i) ≤ 723394816 := by
  have := detF_bound (M := repM (XS a m s) i) (fun r c => XP_b T hl _ _ _) 0 (s := List.replicate m true) (by simp [cardB]; exact T.m4)
  rw [detF_full] at this
  exact absI_le.1 this
theorem numsC_b {a : List (List Int)} {m n : Nat} (T : Tb a m n) {s : List Bool} (hl : s.length = m + n) : ∀ x ∈ numsC a m s, -723394816 ≤ x ∧ x ≤ 723394816 := by
  intro x hx
  obtain ⟨i, _, rfl⟩ := List.mem_map.1 hx
  have := num0_b T hl i
  unfold num0
  split <;> omega
theorem seal_corner {id : Nat} {xs : List Int} {d : Int} {bs : List Bool} (hb : h.bl id = some (.cells false true (xs.flatMap (e1 I)))) :
    ∃ h', sealA h (.agg (.sl id 0 xs.length 1 :: I d :: bs.flatMap (e1 AV.bool))) = some (corA xs d bs, h') := by
  have h1 : ∀ (bs : List Bool) (g : Hp), sealCells g (bs.flatMap (e1 AV.bool)) = some (bs.flatMap (e1 AV.bool), g) := by
    intro bs
    induction bs with
    | nil => intro g; rfl
    | cons b bs ih =>
      intro g
      show sealCells g (.bool b :: bs.flatMap (e1 AV.bool)) = some (.bool b :: bs.flatMap (e1 AV.bool), g)
      have : sealV g (.bool b) = some (.bool b, g) := rfl
      simp only [sealCells, this, Option.bind_some, ih, Option.map_some]
  have h2 : sealV h (.sl id 0 xs.length 1) = some (LI xs, h.put id (some (.cells true true (xs.flatMap (e1 I))))) := by
    have := sealSl_own (h := h) (f := e1 I) id xs.length false true xs rfl
    rw [← hb] at this
    rw [← this, ← sealA_sl]; rfl
  refine ⟨h.put id (some (.cells true true (xs.flatMap (e1 I)))), ?_⟩
  · have hnp : (AV.agg (.sl id 0 xs.length 1 :: I d :: bs.flatMap (e1 AV.bool))).isPure = false := rfl
    simp only [sealA, hnp, Bool.false_eq_true, if_false, sealCells, h2, Option.bind_some]
    have h3 : ∀ g : Hp, sealV g (I d) = some (I d, g) := fun _ => rfl
    simp only [h3, Option.bind_some, h1, Option.map_some]; rfl
noncomputable def mk76 (x : AV) : Option AV := buildB Try.prog (Try.prog.underlying 76) (izero Try.prog 76) [(1, x)]
noncomputable def mk103 (x : AV) : Option AV := buildB Try.prog (Try.prog.underlying 103) (izero Try.prog 103) [(0, x)]
section
variable {c : Cfg} {ops : Array Oper} {lim : Option Nat} {st : St} {K : AV → Hp → Prop}
@[go_sem ↓ high] theorem W_b76 (a : Operand) : StepW Try.prog c ops lim (.build 76 #[(1, a)]) st h K = getW (mk76 (ev st a)) h K := by
  rw [W_build]; rfl
@[go_sem ↓ high] theorem W_b103 (a : Operand) : StepW Try.prog c ops lim (.build 103 #[(0, a)]) st h K = getW (mk103 (ev st a)) h K := by
  rw [W_build]; rfl
def zc (d : Int) : List AV := [.nil, I d, .bool false, .bool false, .bool false, .bool false, .bool false, .bool false, .bool false, .bool false]
@[go_sem ↓ high] theorem W_b103z : StepW Try.prog c ops lim (.build 103 #[]) st h K = K (.agg (zc 0)) h := by
  rw [W_build, show buildB Try.prog (Try.prog.underlying 103) (izero Try.prog 103) ((#[] : Array (Nat × Operand)).toList.map fun p => (p.1, ev st p.2)) = some (.agg (zc 0)) by kernel_rfl]
  exact getW_some _
end
@[go_sem] theorem mk76_I (x : Int) : mk76 (I x) = some (.agg [.nil, I x]) := by kernel_rfl
@[go_sem] theorem mk103_I (x : Int) : mk103 (.agg [.nil, I x]) = some (.agg (zc x)) := by kernel_rfl
/-- Ten cells over ten. -/
theorem store10 (id : Nat) (cs xs : List AV) (hc : cs.length = 10) (hx : xs.length = 10) (ha : xs.all AV.isCell = true) : storeC h id 0 10 (some (.cells false false cs)) xs = some (.skp, h.put id (some (.cells false false xs))) := by
  rw [storeC_many id 0 10 false cs xs hx ha (by omega)]
  have := setL_all cs xs [] (by omega)
  simp only [List.nil_append, List.length_nil] at this
  rw [this]
end Go.Proofs.Ytcdpkgmkckfonaa

set_option linter.unusedVariables false
set_option linter.unusedSimpArgs false
set_option maxRecDepth 10000
namespace Go.Proofs.Ytcdpkgmkckfonaa
open Go Go.Am

variable {h h' : Hp} {K : AV → Hp → Prop}

theorem take_le (s : List Bool) (k : Nat) : cardB (s.take k) ≤ cardB s := List.Sublist.count_le _ (List.take_sublist k s)
theorem XP_off {a : List (List Int)} {m : Nat} {s : List Bool} {k : Nat} (hk : k < s.length) (ho : onB s k = false) : XP a m s (k + 1) = XP a m s k := by
  funext r c
  unfold XP
  rw [take_on hk, ho]; rfl
theorem XP_row {a : List (List Int)} {m : Nat} {s : List Bool} {k : Nat} (hk : k < s.length) (ho : onB s k = true) (r c : Nat) : XP a m s (k + 1) r c = if r = cardB (s.take k) then rowL a m k c else XP a m s k r c := by
  unfold XP
  rw [take_on hk, ho, if_pos rfl]
  by_cases e : r = cardB (s.take k)
  · subst e
    rw [if_pos (by omega), if_pos rfl, posB_take ho]
  · rw [if_neg e]
    by_cases e2 : r < cardB (s.take k)
    · rw [if_pos e2, if_pos (by omega)]
    · rw [if_neg e2, if_neg (by omega)]
def XI (a : List (List Int)) (m : Nat) (s : List Bool) (k i : Nat) : Mat := fun r c => if r = cardB (s.take k) ∧ c < i then PT a c (k - m) else XP a m s k r c
theorem XI_zero (a : List (List Int)) (m : Nat) (s : List Bool) (k : Nat) : XI a m s k 0 = XP a m s k := by
  funext r c; simp [XI]
theorem XI_succ (a : List (List Int)) (m : Nat) (s : List Bool) (k i : Nat) : setM (XI a m s k i) (cardB (s.take k)) i (PT a i (k - m)) = XI a m s k (i + 1) := by
  funext r c
  unfold setM XI
  by_cases e : r = cardB (s.take k)
  · by_cases e2 : c = i
    · subst e2; rw [if_pos ⟨e, rfl⟩, if_pos ⟨e, by omega⟩]
    · rw [if_neg (fun h => e2 h.2)]
      by_cases e3 : c < i
      · rw [if_pos ⟨e, e3⟩, if_pos ⟨e, by omega⟩]
      · rw [if_neg (fun h => e3 h.2), if_neg (fun h => by omega)]
  · rw [if_neg (fun h => e h.1), if_neg (fun h => e h.1), if_neg (fun h => e h.1)]
theorem XI_full {a : List (List Int)} {m : Nat} {s : List Bool} {k : Nat} (hm : m ≤ 4) (hk : k < s.length) (ho : onB s k = true) (hkm : ¬ k < m) : matA (setM (XI a m s k m) (cardB (s.take k)) 4 1) = matA (XP a m s (k + 1)) := matA_congr fun r c hr hc => by
  rw [XP_row hk ho]
  unfold setM XI
  by_cases e : r = cardB (s.take k)
  · rw [if_pos e]
    by_cases e2 : c = 4
    · rw [if_pos ⟨e, e2⟩, rowL, if_neg hkm, if_neg (by omega), if_pos e2]
    · rw [if_neg (fun h => e2 h.2), rowL, if_neg hkm]
      by_cases e3 : c < m
      · rw [if_pos ⟨e, e3⟩, if_pos e3]
      · rw [if_neg (fun h => e3 h.2), if_neg e3, if_neg e2]
        unfold XP; rw [if_neg (by omega)]
  · rw [if_neg (fun h => e h.1), if_neg (fun h => e h.1), if_neg e]
theorem XP_unit {a : List (List Int)} {m : Nat} {s : List Bool} {k : Nat} (hk : k < s.length) (ho : onB s k = true) (hkm : k < m) : setM (XP a m s k) (cardB (s.take k)) k 1 = XP a m s (k + 1) := by
  funext r c
  rw [XP_row hk ho]
  unfold setM
  by_cases e : r = cardB (s.take k)
  · rw [if_pos e]
    by_cases e2 : c = k
    · rw [if_pos ⟨e, e2⟩, rowL, if_pos hkm, if_pos e2]
    · rw [if_neg (fun h => e2 h.2), rowL, if_pos hkm, if_neg e2]
      unfold XP; rw [if_neg (by omega)]
  · rw [if_neg (fun h => e h.1), if_neg e]
def negL (a : List (List Int)) (m : Nat) (s : List Bool) (i : Nat) : List Int := (List.range m).map fun k => if k < i then - num0 a m s k else num0 a m s k
theorem negL_len (a : List (List Int)) (m : Nat) (s : List Bool) (i : Nat) : (negL a m s i).length = m := by simp [negL]
theorem negL_set {a : List (List Int)} {m : Nat} {s : List Bool} {i : Nat} (hi : i < m) : (negL a m s i).set i (- num0 a m s i) = negL a m s (i + 1) := by
  refine list_ext_nth (by simp [negL]) fun c hc => ?_
  rw [List.length_set, negL_len] at hc
  rw [nth_set _ _ _ _ (by rw [negL_len]; exact hi), negL, nth_map_range _ _ _ hc, negL, nth_map_range _ _ _ hc]
  by_cases e : i = c
  · subst e; rw [if_pos rfl, if_pos (by omega)]
  · rw [if_neg e]
    by_cases e2 : c < i
    · rw [if_pos e2, if_pos (by omega)]
    · rw [if_neg e2, if_neg (by omega)]
theorem nums0_succ (a : List (List Int)) (m : Nat) (s : List Bool) (i : Nat) : (List.range i).map (num0 a m s) ++ [num0 a m s i] = (List.range (i + 1)).map (num0 a m s) := rows_snoc _ _
theorem bs31 (h : Hp) (x : Int) : bsB Try.prog h (some (.slice 3)) 1 [(0, I x)] = some (.lst [[I x]], h) := bsB_one 3 (I x) (I x) (I 0) h isz3 izero3 rfl rfl rfl rfl rfl rfl rfl

theorem ld10 (cs : List AV) (hc : cs.length = 10) : loadC (Try.prog.underlying 103) (some 10) (some (cs, 0)) = some (.agg cs) := by
  rw [und103, loadC_agg _ 10 rfl cs 0 (by omega), List.drop_zero, List.take_of_length_le (by omega)]
theorem zc_1 (d : Int) : (zc d)[1]? = some (I d) := rfl
theorem cb_len (v : AV) (d : Int) {bs : List Bool} (h : bs.length = 8) : (v :: I d :: bs.flatMap (e1 AV.bool)).length = 10 := by rw [List.length_cons, List.length_cons, flat_len, h]
theorem app_facts {v : AV} {xs : List Int} (o : Go.Am.Own (e1 I) 1 h v xs) (x : Int) : (appH h v ((xs ++ [x]).flatMap (e1 I))).nx = h.nx + 1 ∧ (appH h v ((xs ++ [x]).flatMap (e1 I))).bl h.nx = some (.cells false true ((xs ++ [x]).flatMap (e1 I))) ∧
    ∀ k, k < h.nx → (∀ id o n z, v = .sl id o n z → k ≠ id) → (appH h v ((xs ++ [x]).flatMap (e1 I))).bl k = h.bl k := by
  rcases o with ⟨rfl, _⟩ | ⟨id, rfl, _, _⟩
  · exact ⟨rfl, by simp [appH, Hp.alloc], fun k hk _ => by simp [appH, Hp.alloc, show ¬ k = h.nx by omega]⟩
  · exact ⟨rfl, by simp [appH, Hp.alloc, Hp.put], fun k hk hne => by
      have := hne id _ _ _ rfl
      simp [appH, Hp.alloc, Hp.put, show ¬ k = h.nx by omega, this]⟩
set_option maxHeartbeats 2000000 in
theorem f80_con {a : List (List Int)} {m n : Nat} (T : Tb a m n) {s : List Bool} (hl : s.length = m + n) (hc : cardB s = m) :
    ∃ r, Con Try.prog cfg 80 [LLI a, actsA s] (.tup [r, .bool (okCor a m n s)]) ∧ (∃ cs, r = .agg cs ∧ cs.length = 10 ∧ cs.all AV.isCell = true) ∧ (okCor a m n s = true → r = corOf a m n s) := by
  have hm1 := T.m1
  have hm4 := T.m4
  have hn1 := T.n1
  have hn4 := T.n4
  have hla := T.len
  have hl0 := T.row 0 (by omega)
  have hal : ∀ g : Hp, allocB g (some (actsA s)) = some (.ptr g.nx 0, g.alloc (.cells false false ((pad8 s).flatMap (e1 AV.bool)))) := fun g => allocB_agg _ (List.all_eq_true.2 fun y hy => by
    obtain ⟨b, _, hb⟩ := List.mem_flatMap.1 hy
    simp only [e1, List.mem_singleton] at hb
    rw [hb]; rfl)
  have hal3 : ∀ g : Hp, allocB g (izero Try.prog 121) = some (.ptr g.nx 0, g.alloc (.cells false false (matA fun _ _ => 0))) := fun g => by
    rw [show izero Try.prog 121 = some (.agg (matA fun _ _ => 0)) by kernel_rfl]; exact allocB_agg _ (matA_cell _)
  simp only [izero121] at hal3
  have hal4 : ∀ g : Hp, allocB g (izero Try.prog 103) = some (.ptr g.nx 0, g.alloc (.cells false false (zc 0))) := fun g => by
    rw [show izero Try.prog 103 = some (.agg (zc 0)) by kernel_rfl]; exact allocB_agg _ rfl
  simp only [izero103] at hal4
  suffices hh : ∃ r, (∃ r0, r = .tup [r0, .bool (okCor a m n s)] ∧ (∃ cs, r0 = .agg cs ∧ cs.length = 10 ∧ cs.all AV.isCell = true) ∧ (okCor a m n s = true → r0 = corOf a m n s)) ∧ Con Try.prog cfg 80 [LLI a, actsA s] r by
    obtain ⟨r, ⟨r0, rfl, h3, h2⟩, h1⟩ := hh
    exact ⟨r0, h1, h3, h2⟩
  have hp8 := pad8_len s
  refine Con_introE Try.func80 rfl ok80 (Nat.le_of_ble_eq_true rfl) rfl ?_
  simp only [Try.f80, Option.getD_some, initSt2]
  simp (disch := first | (simp only [go_sem, gb0, eq_self]; done) | omega | (simp only [gl1, gl2]; omega)) only [go_sem, ↓reduceIte, Nat.reduceEqDiff, Nat.reduceAdd, Nat.reduceMul, Nat.reduceSub, Int.reduceToNat, Nat.reduceBEq, hal, hal3, hal4, hla, hl0]
  refine WP_cut (fun st g => st 0 = LLI a ∧ st 2 = .skp ∧ st 3 = .ptr 0 0 ∧ st 4 = .ptr 1 0 ∧ st 5 = .bool false ∧ st 6 = I m ∧ st 8 = .ptr 2 0 ∧ g.nx = 3 ∧ g.bl 1 = some (.cells false false (zc 0)) ∧ g.bl 2 = some (.cells false false (matA (XS a m s)))) ?_ ?_
  · refine WP_for 25 (m + n) (fun k st g => st 0 = LLI a ∧ st 2 = .skp ∧ st 3 = .ptr 0 0 ∧ st 4 = .ptr 1 0 ∧ st 5 = .bool false ∧ st 6 = I m ∧ st 8 = .ptr 2 0 ∧ st 24 = I ((m : Int) + n) ∧ st 9 = I (cardB (s.take k)) ∧ g.nx = 3 ∧ g.bl 0 = some (.cells false false ((pad8 s).flatMap (e1 AV.bool))) ∧ g.bl 1 = some (.cells false false (zc 0)) ∧ g.bl 2 = some (.cells false false (matA (XP a m s k)))) (by simp (disch := first | (simp only [go_sem, gb0, eq_self]; done) | omega | (simp only [gl1, gl2]; omega)) only [go_sem, ↓reduceIte, Nat.reduceEqDiff, Nat.reduceAdd, Nat.reduceMul, Nat.reduceSub, Int.reduceToNat, Nat.reduceBEq]) ⟨by simp (disch := first | (simp only [go_sem, gb0, eq_self]; done) | omega | (simp only [gl1, gl2]; omega)) only [go_sem, ↓reduceIte, Nat.reduceEqDiff, Nat.reduceAdd, Nat.reduceMul, Nat.reduceSub, Int.reduceToNat, Nat.reduceBEq, st0_skp], by simp (disch := first | (simp only [go_sem, gb0, eq_self]; done) | omega | (simp only [gl1, gl2]; omega)) only [go_sem, ↓reduceIte, Nat.reduceEqDiff, Nat.reduceAdd, Nat.reduceMul, Nat.reduceSub, Int.reduceToNat, Nat.reduceBEq, st0_skp], by simp (disch := first | (simp only [go_sem, gb0, eq_self]; done) | omega | (simp only [gl1, gl2]; omega)) only [go_sem, ↓reduceIte, Nat.reduceEqDiff, Nat.reduceAdd, Nat.reduceMul, Nat.reduceSub, Int.reduceToNat, Nat.reduceBEq, st0_skp], by simp (disch := first | (simp only [go_sem, gb0, eq_self]; done) | omega | (simp only [gl1, gl2]; omega)) only [go_sem, ↓reduceIte, Nat.reduceEqDiff, Nat.reduceAdd, Nat.reduceMul, Nat.reduceSub, Int.reduceToNat, Nat.reduceBEq, st0_skp], by simp (disch := first | (simp only [go_sem, gb0, eq_self]; done) | omega | (simp only [gl1, gl2]; omega)) only [go_sem, ↓reduceIte, Nat.reduceEqDiff, Nat.reduceAdd, Nat.reduceMul, Nat.reduceSub, Int.reduceToNat, Nat.reduceBEq, st0_skp], by simp (disch := first | (simp only [go_sem, gb0, eq_self]; done) | omega | (simp only [gl1, gl2]; omega)) only [go_sem, ↓reduceIte, Nat.reduceEqDiff, Nat.reduceAdd, Nat.reduceMul, Nat.reduceSub, Int.reduceToNat, Nat.reduceBEq, st0_skp], by simp (disch := first | (simp only [go_sem, gb0, eq_self]; done) | omega | (simp only [gl1, gl2]; omega)) only [go_sem, ↓reduceIte, Nat.reduceEqDiff, Nat.reduceAdd, Nat.reduceMul, Nat.reduceSub, Int.reduceToNat, Nat.reduceBEq, st0_skp], by simp (disch := first | (simp only [go_sem, gb0, eq_self]; done) | omega | (simp only [gl1, gl2]; omega)) only [go_sem, ↓reduceIte, Nat.reduceEqDiff, Nat.reduceAdd, Nat.reduceMul, Nat.reduceSub, Int.reduceToNat, Nat.reduceBEq, st0_skp], by simp (disch := first | (simp only [go_sem, gb0, eq_self]; done) | omega | (simp only [gl1, gl2]; omega)) only [go_sem, ↓reduceIte, Nat.reduceEqDiff, Nat.reduceAdd, Nat.reduceMul, Nat.reduceSub, Int.reduceToNat, Nat.reduceBEq]; rfl, by simp (disch := first | (simp only [go_sem, gb0, eq_self]; done) | omega | (simp only [gl1, gl2]; omega)) only [go_sem, ↓reduceIte, Nat.reduceEqDiff, Nat.reduceAdd, Nat.reduceMul, Nat.reduceSub, Int.reduceToNat, Nat.reduceBEq], by simp (disch := first | (simp only [go_sem, gb0, eq_self]; done) | omega | (simp only [gl1, gl2]; omega)) only [go_sem, ↓reduceIte, Nat.reduceEqDiff, Nat.reduceAdd, Nat.reduceMul, Nat.reduceSub, Int.reduceToNat, Nat.reduceBEq], by simp (disch := first | (simp only [go_sem, gb0, eq_self]; done) | omega | (simp only [gl1, gl2]; omega)) only [go_sem, ↓reduceIte, Nat.reduceEqDiff, Nat.reduceAdd, Nat.reduceMul, Nat.reduceSub, Int.reduceToNat, Nat.reduceBEq], by simp (disch := first | (simp only [go_sem, gb0, eq_self]; done) | omega | (simp only [gl1, gl2]; omega)) only [go_sem, ↓reduceIte, Nat.reduceEqDiff, Nat.reduceAdd, Nat.reduceMul, Nat.reduceSub, Int.reduceToNat, Nat.reduceBEq]; rfl⟩ ?_
    rintro k st g hk s25 ⟨s0, s2, s3, s4, s5, s6, s8, s24, s9, gn, g0, g1, g2⟩
    by_cases hlt : k < m + n
    case neg =>
      have hke : k = m + n := by omega
      subst hke
      have hX : XP a m s (m + n) = XS a m s := by unfold XS; rw [hl]
      have hnl : ¬ (((m + n : Nat) : Int) < (m : Int) + n) := by omega
      simp (disch := first | (simp only [go_sem, gb0, eq_self]; done) | omega | (simp only [gl1, gl2]; omega)) only [go_sem, ↓reduceIte, Nat.reduceEqDiff, Nat.reduceAdd, Nat.reduceMul, Nat.reduceSub, Int.reduceToNat, Nat.reduceBEq, s0, s2, s3, s4, s5, s6, s8, s24, s9, s25, hnl]
      exact ⟨gn, g1, by rw [g2, hX]⟩
    have hlt' : (k : Int) < (m : Int) + n := by omega
    have hk8 : k < 8 := by omega
    have hk8' : (k : Int) < 8 := by omega
    have e8 : ((pad8 s).flatMap (e1 AV.bool))[k]? = some (.bool (onB s k)) := by rw [flat_get _ _ _ (by omega), pad8_nth (by omega) (by omega)]
    have hr := take_le s k
    cases ho : onB s k with
    | false =>
      rw [ho] at e8
      have q1 : cardB (s.take (k + 1)) = cardB (s.take k) := by rw [take_on (by omega), ho]; rfl
      simp (disch := first | (simp only [go_sem, gb0, eq_self]; done) | omega | (simp only [gl1, gl2]; omega)) only [go_sem, ↓reduceIte, Nat.reduceEqDiff, Nat.reduceAdd, Nat.reduceMul, Nat.reduceSub, Int.reduceToNat, Nat.reduceBEq, s0, s2, s3, s4, s5, s6, s8, s24, s9, s25, hlt', hk8, hk8', g0, e8]
      rw [ForK_normal]
      exact ⟨hlt, by simp (disch := first | (simp only [go_sem, gb0, eq_self]; done) | omega | (simp only [gl1, gl2]; omega)) only [go_sem, ↓reduceIte, Nat.reduceEqDiff, Nat.reduceAdd, Nat.reduceMul, Nat.reduceSub, Int.reduceToNat, Nat.reduceBEq, s25], by simp (disch := first | (simp only [go_sem, gb0, eq_self]; done) | omega | (simp only [gl1, gl2]; omega)) only [go_sem, ↓reduceIte, Nat.reduceEqDiff, Nat.reduceAdd, Nat.reduceMul, Nat.reduceSub, Int.reduceToNat, Nat.reduceBEq, s0], by simp (disch := first | (simp only [go_sem, gb0, eq_self]; done) | omega | (simp only [gl1, gl2]; omega)) only [go_sem, ↓reduceIte, Nat.reduceEqDiff, Nat.reduceAdd, Nat.reduceMul, Nat.reduceSub, Int.reduceToNat, Nat.reduceBEq, s2], by simp (disch := first | (simp only [go_sem, gb0, eq_self]; done) | omega | (simp only [gl1, gl2]; omega)) only [go_sem, ↓reduceIte, Nat.reduceEqDiff, Nat.reduceAdd, Nat.reduceMul, Nat.reduceSub, Int.reduceToNat, Nat.reduceBEq, s3], by simp (disch := first | (simp only [go_sem, gb0, eq_self]; done) | omega | (simp only [gl1, gl2]; omega)) only [go_sem, ↓reduceIte, Nat.reduceEqDiff, Nat.reduceAdd, Nat.reduceMul, Nat.reduceSub, Int.reduceToNat, Nat.reduceBEq, s4], by simp (disch := first | (simp only [go_sem, gb0, eq_self]; done) | omega | (simp only [gl1, gl2]; omega)) only [go_sem, ↓reduceIte, Nat.reduceEqDiff, Nat.reduceAdd, Nat.reduceMul, Nat.reduceSub, Int.reduceToNat, Nat.reduceBEq, s5], by simp (disch := first | (simp only [go_sem, gb0, eq_self]; done) | omega | (simp only [gl1, gl2]; omega)) only [go_sem, ↓reduceIte, Nat.reduceEqDiff, Nat.reduceAdd, Nat.reduceMul, Nat.reduceSub, Int.reduceToNat, Nat.reduceBEq, s6], by simp (disch := first | (simp only [go_sem, gb0, eq_self]; done) | omega | (simp only [gl1, gl2]; omega)) only [go_sem, ↓reduceIte, Nat.reduceEqDiff, Nat.reduceAdd, Nat.reduceMul, Nat.reduceSub, Int.reduceToNat, Nat.reduceBEq, s8], by simp (disch := first | (simp only [go_sem, gb0, eq_self]; done) | omega | (simp only [gl1, gl2]; omega)) only [go_sem, ↓reduceIte, Nat.reduceEqDiff, Nat.reduceAdd, Nat.reduceMul, Nat.reduceSub, Int.reduceToNat, Nat.reduceBEq, s24], by simp (disch := first | (simp only [go_sem, gb0, eq_self]; done) | omega | (simp only [gl1, gl2]; omega)) only [go_sem, ↓reduceIte, Nat.reduceEqDiff, Nat.reduceAdd, Nat.reduceMul, Nat.reduceSub, Int.reduceToNat, Nat.reduceBEq, s9, q1], gn, g0, g1, by rw [g2, XP_off (by omega) ho]⟩
    | true =>
      rw [ho] at e8
      have q1 : cardB (s.take (k + 1)) = cardB (s.take k) + 1 := by rw [take_on (by omega), ho]; rfl
      have q1' : ((cardB (s.take (k + 1)) : Nat) : Int) = (cardB (s.take k) : Int) + 1 := by omega
      have q2 := take_le s (k + 1)
      have hr4 : cardB (s.take k) < 4 := by omega
      have hr4' : ((cardB (s.take k) : Nat) : Int) < 4 := by omega
      by_cases hkm : k < m
      · have hkm' : (k : Int) < m := by omega
        have hk5 : k < 5 := by omega
        have hk5' : (k : Int) < 5 := by omega
        have hx := XP_unit (a := a) (s := s) (k := k) (by omega) ho hkm
        simp (disch := first | (simp only [go_sem, gb0, eq_self]; done) | omega | (simp only [gl1, gl2]; omega)) only [go_sem, ↓reduceIte, Nat.reduceEqDiff, Nat.reduceAdd, Nat.reduceMul, Nat.reduceSub, Int.reduceToNat, Nat.reduceBEq, s0, s2, s3, s4, s5, s6, s8, s24, s9, s25, hlt', hk8, hk8', g0, e8, hkm', hr4, hr4', hk5, hk5', g2, matA_store, hx]
        rw [ForK_normal]
        exact ⟨hlt, by simp (disch := first | (simp only [go_sem, gb0, eq_self]; done) | omega | (simp only [gl1, gl2]; omega)) only [go_sem, ↓reduceIte, Nat.reduceEqDiff, Nat.reduceAdd, Nat.reduceMul, Nat.reduceSub, Int.reduceToNat, Nat.reduceBEq, s25], by simp (disch := first | (simp only [go_sem, gb0, eq_self]; done) | omega | (simp only [gl1, gl2]; omega)) only [go_sem, ↓reduceIte, Nat.reduceEqDiff, Nat.reduceAdd, Nat.reduceMul, Nat.reduceSub, Int.reduceToNat, Nat.reduceBEq, s0], by simp (disch := first | (simp only [go_sem, gb0, eq_self]; done) | omega | (simp only [gl1, gl2]; omega)) only [go_sem, ↓reduceIte, Nat.reduceEqDiff, Nat.reduceAdd, Nat.reduceMul, Nat.reduceSub, Int.reduceToNat, Nat.reduceBEq, s2], by simp (disch := first | (simp only [go_sem, gb0, eq_self]; done) | omega | (simp only [gl1, gl2]; omega)) only [go_sem, ↓reduceIte, Nat.reduceEqDiff, Nat.reduceAdd, Nat.reduceMul, Nat.reduceSub, Int.reduceToNat, Nat.reduceBEq, s3], by simp (disch := first | (simp only [go_sem, gb0, eq_self]; done) | omega | (simp only [gl1, gl2]; omega)) only [go_sem, ↓reduceIte, Nat.reduceEqDiff, Nat.reduceAdd, Nat.reduceMul, Nat.reduceSub, Int.reduceToNat, Nat.reduceBEq, s4], by simp (disch := first | (simp only [go_sem, gb0, eq_self]; done) | omega | (simp only [gl1, gl2]; omega)) only [go_sem, ↓reduceIte, Nat.reduceEqDiff, Nat.reduceAdd, Nat.reduceMul, Nat.reduceSub, Int.reduceToNat, Nat.reduceBEq, s5], by simp (disch := first | (simp only [go_sem, gb0, eq_self]; done) | omega | (simp only [gl1, gl2]; omega)) only [go_sem, ↓reduceIte, Nat.reduceEqDiff, Nat.reduceAdd, Nat.reduceMul, Nat.reduceSub, Int.reduceToNat, Nat.reduceBEq, s6], by simp (disch := first | (simp only [go_sem, gb0, eq_self]; done) | omega | (simp only [gl1, gl2]; omega)) only [go_sem, ↓reduceIte, Nat.reduceEqDiff, Nat.reduceAdd, Nat.reduceMul, Nat.reduceSub, Int.reduceToNat, Nat.reduceBEq, s8], by simp (disch := first | (simp only [go_sem, gb0, eq_self]; done) | omega | (simp only [gl1, gl2]; omega)) only [go_sem, ↓reduceIte, Nat.reduceEqDiff, Nat.reduceAdd, Nat.reduceMul, Nat.reduceSub, Int.reduceToNat, Nat.reduceBEq, s24], by simp (disch := first | (simp only [go_sem, gb0, eq_self]; done) | omega | (simp only [gl1, gl2]; omega)) only [go_sem, ↓reduceIte, Nat.reduceEqDiff, Nat.reduceAdd, Nat.reduceMul, Nat.reduceSub, Int.reduceToNat, Nat.reduceBEq, s9, q1'], gn, by simp [upd, Hp.put, Hp.alloc, g0], by simp [upd, Hp.put, Hp.alloc, g1], by simp [upd, Hp.put, Hp.alloc]⟩
      · have hkm' : ¬ (k : Int) < m := by omega
        simp (disch := first | (simp only [go_sem, gb0, eq_self]; done) | omega | (simp only [gl1, gl2]; omega)) only [go_sem, ↓reduceIte, Nat.reduceEqDiff, Nat.reduceAdd, Nat.reduceMul, Nat.reduceSub, Int.reduceToNat, Nat.reduceBEq, s0, s2, s3, s4, s5, s6, s8, s24, s9, s25, hlt', hk8, hk8', g0, e8, hkm']
        refine WP_cut (fun st g => st 0 = LLI a ∧ st 2 = .skp ∧ st 3 = .ptr 0 0 ∧ st 4 = .ptr 1 0 ∧ st 5 = .bool false ∧ st 6 = I m ∧ st 8 = .ptr 2 0 ∧ st 24 = I ((m : Int) + n) ∧ st 9 = I (cardB (s.take k)) ∧ st 10 = I k ∧ st 25 = I k ∧ st 39 = I m ∧ g.nx = 3 ∧ g.bl 0 = some (.cells false false ((pad8 s).flatMap (e1 AV.bool))) ∧ g.bl 1 = some (.cells false false (zc 0)) ∧ g.bl 2 = some (.cells false false (matA (XI a m s k m)))) ?_ ?_
        · refine WP_for 40 m (fun i st g => st 0 = LLI a ∧ st 2 = .skp ∧ st 3 = .ptr 0 0 ∧ st 4 = .ptr 1 0 ∧ st 5 = .bool false ∧ st 6 = I m ∧ st 8 = .ptr 2 0 ∧ st 24 = I ((m : Int) + n) ∧ st 9 = I (cardB (s.take k)) ∧ st 10 = I k ∧ st 25 = I k ∧ st 39 = I m ∧ g.nx = 3 ∧ g.bl 0 = some (.cells false false ((pad8 s).flatMap (e1 AV.bool))) ∧ g.bl 1 = some (.cells false false (zc 0)) ∧ g.bl 2 = some (.cells false false (matA (XI a m s k i)))) (by simp (disch := first | (simp only [go_sem, gb0, eq_self]; done) | omega | (simp only [gl1, gl2]; omega)) only [go_sem, ↓reduceIte, Nat.reduceEqDiff, Nat.reduceAdd, Nat.reduceMul, Nat.reduceSub, Int.reduceToNat, Nat.reduceBEq]) ⟨by simp (disch := first | (simp only [go_sem, gb0, eq_self]; done) | omega | (simp only [gl1, gl2]; omega)) only [go_sem, ↓reduceIte, Nat.reduceEqDiff, Nat.reduceAdd, Nat.reduceMul, Nat.reduceSub, Int.reduceToNat, Nat.reduceBEq, s0, s2, s3, s4, s5, s6, s8, s24, s9, s25], by simp (disch := first | (simp only [go_sem, gb0, eq_self]; done) | omega | (simp only [gl1, gl2]; omega)) only [go_sem, ↓reduceIte, Nat.reduceEqDiff, Nat.reduceAdd, Nat.reduceMul, Nat.reduceSub, Int.reduceToNat, Nat.reduceBEq, s0, s2, s3, s4, s5, s6, s8, s24, s9, s25], by simp (disch := first | (simp only [go_sem, gb0, eq_self]; done) | omega | (simp only [gl1, gl2]; omega)) only [go_sem, ↓reduceIte, Nat.reduceEqDiff, Nat.reduceAdd, Nat.reduceMul, Nat.reduceSub, Int.reduceToNat, Nat.reduceBEq, s0, s2, s3, s4, s5, s6, s8, s24, s9, s25], by simp (disch := first | (simp only [go_sem, gb0, eq_self]; done) | omega | (simp only [gl1, gl2]; omega)) only [go_sem, ↓reduceIte, Nat.reduceEqDiff, Nat.reduceAdd, Nat.reduceMul, Nat.reduceSub, Int.reduceToNat, Nat.reduceBEq, s0, s2, s3, s4, s5, s6, s8, s24, s9, s25], by simp (disch := first | (simp only [go_sem, gb0, eq_self]; done) | omega | (simp only [gl1, gl2]; omega)) only [go_sem, ↓reduceIte, Nat.reduceEqDiff, Nat.reduceAdd, Nat.reduceMul, Nat.reduceSub, Int.reduceToNat, Nat.reduceBEq, s0, s2, s3, s4, s5, s6, s8, s24, s9, s25], by simp (disch := first | (simp only [go_sem, gb0, eq_self]; done) | omega | (simp only [gl1, gl2]; omega)) only [go_sem, ↓reduceIte, Nat.reduceEqDiff, Nat.reduceAdd, Nat.reduceMul, Nat.reduceSub, Int.reduceToNat, Nat.reduceBEq, s0, s2, s3, s4, s5, s6, s8, s24, s9, s25], by simp (disch := first | (simp only [go_sem, gb0, eq_self]; done) | omega | (simp only [gl1, gl2]; omega)) only [go_sem, ↓reduceIte, Nat.reduceEqDiff, Nat.reduceAdd, Nat.reduceMul, Nat.reduceSub, Int.reduceToNat, Nat.reduceBEq, s0, s2, s3, s4, s5, s6, s8, s24, s9, s25], by simp (disch := first | (simp only [go_sem, gb0, eq_self]; done) | omega | (simp only [gl1, gl2]; omega)) only [go_sem, ↓reduceIte, Nat.reduceEqDiff, Nat.reduceAdd, Nat.reduceMul, Nat.reduceSub, Int.reduceToNat, Nat.reduceBEq, s0, s2, s3, s4, s5, s6, s8, s24, s9, s25], by simp (disch := first | (simp only [go_sem, gb0, eq_self]; done) | omega | (simp only [gl1, gl2]; omega)) only [go_sem, ↓reduceIte, Nat.reduceEqDiff, Nat.reduceAdd, Nat.reduceMul, Nat.reduceSub, Int.reduceToNat, Nat.reduceBEq, s0, s2, s3, s4, s5, s6, s8, s24, s9, s25], by simp (disch := first | (simp only [go_sem, gb0, eq_self]; done) | omega | (simp only [gl1, gl2]; omega)) only [go_sem, ↓reduceIte, Nat.reduceEqDiff, Nat.reduceAdd, Nat.reduceMul, Nat.reduceSub, Int.reduceToNat, Nat.reduceBEq, s0, s2, s3, s4, s5, s6, s8, s24, s9, s25], by simp (disch := first | (simp only [go_sem, gb0, eq_self]; done) | omega | (simp only [gl1, gl2]; omega)) only [go_sem, ↓reduceIte, Nat.reduceEqDiff, Nat.reduceAdd, Nat.reduceMul, Nat.reduceSub, Int.reduceToNat, Nat.reduceBEq, s0, s2, s3, s4, s5, s6, s8, s24, s9, s25], by simp (disch := first | (simp only [go_sem, gb0, eq_self]; done) | omega | (simp only [gl1, gl2]; omega)) only [go_sem, ↓reduceIte, Nat.reduceEqDiff, Nat.reduceAdd, Nat.reduceMul, Nat.reduceSub, Int.reduceToNat, Nat.reduceBEq, s0, s2, s3, s4, s5, s6, s8, s24, s9, s25], gn, g0, g1, by rw [g2, XI_zero]⟩ ?_
          clear s0 s2 s3 s4 s5 s6 s8 s9 s24 s25 gn g0 g1 g2
          rintro i st g hi s40 ⟨s0, s2, s3, s4, s5, s6, s8, s24, s9, s10, s25, s39, gn, g0, g1, g2⟩
          by_cases hlm : i < m
          case neg =>
            have hie : i = m := by omega
            subst hie
            simp (disch := first | (simp only [go_sem, gb0, eq_self]; done) | omega | (simp only [gl1, gl2]; omega)) only [go_sem, ↓reduceIte, Nat.reduceEqDiff, Nat.reduceAdd, Nat.reduceMul, Nat.reduceSub, Int.reduceToNat, Nat.reduceBEq, s0, s2, s3, s4, s5, s6, s8, s24, s9, s10, s25, s39, s40, hlm]
            exact ⟨gn, g0, g1, g2⟩
          have hlm' : (i : Int) < m := by omega
          have hi5 : i < 5 := by omega
          have hi5' : (i : Int) < 5 := by omega
          have hli : i < a.length := by omega
          have hli' : (i : Int) < a.length := by omega
          have hj : k - m < n := by omega
          have hlj : k - m < (nth a i).length := by rw [T.row i hlm]; exact hj
          have hlj' : (k : Int) - m < (nth a i).length := by omega
          have hkm0 : (0 : Int) ≤ (k : Int) - m := by omega
          have htn : ((k : Int) - (m : Int)).toNat = k - m := by omega
          have hpt : nth (nth a i) (k - m) + 21 = PT a i (k - m) := rfl
          have hbd := T.bd i hlm (k - m) hj
          have hx := XI_succ a m s k i
          have hct : ∀ L : List Nat, (L ++ [2]).contains 2 = true := fun L => by simp
          simp (maxSteps := 3000000) (disch := first | (simp only [go_sem, gb0, eq_self]; done) | omega | (simp only [gl1, gl2]; omega)) only [go_sem, ↓reduceIte, Nat.reduceEqDiff, Nat.reduceAdd, Nat.reduceMul, Nat.reduceSub, Int.reduceToNat, Nat.reduceBEq, s0, s2, s3, s4, s5, s6, s8, s24, s9, s10, s25, s39, s40, hct, gn, hlm, hlm', hi5, hi5', hli, hli', hlj, hlj', hkm0, htn, hpt, hr4, hr4', g2, matA_store, hx, List.filterMap_cons, List.filterMap_nil, List.contains_nil, List.contains_cons, Bool.not_false, Bool.not_true, Bool.or_true, Bool.true_or, List.nil_append, List.cons_append, Nat.reduceLT, decide_true, decide_false, List.drop_succ_cons]
          rw [ForK_normal]
          exact ⟨hlm, by simp (disch := first | (simp only [go_sem, gb0, eq_self]; done) | omega | (simp only [gl1, gl2]; omega)) only [go_sem, ↓reduceIte, Nat.reduceEqDiff, Nat.reduceAdd, Nat.reduceMul, Nat.reduceSub, Int.reduceToNat, Nat.reduceBEq, s40], by simp (disch := first | (simp only [go_sem, gb0, eq_self]; done) | omega | (simp only [gl1, gl2]; omega)) only [go_sem, ↓reduceIte, Nat.reduceEqDiff, Nat.reduceAdd, Nat.reduceMul, Nat.reduceSub, Int.reduceToNat, Nat.reduceBEq, s0], by simp (disch := first | (simp only [go_sem, gb0, eq_self]; done) | omega | (simp only [gl1, gl2]; omega)) only [go_sem, ↓reduceIte, Nat.reduceEqDiff, Nat.reduceAdd, Nat.reduceMul, Nat.reduceSub, Int.reduceToNat, Nat.reduceBEq, s2], by simp (disch := first | (simp only [go_sem, gb0, eq_self]; done) | omega | (simp only [gl1, gl2]; omega)) only [go_sem, ↓reduceIte, Nat.reduceEqDiff, Nat.reduceAdd, Nat.reduceMul, Nat.reduceSub, Int.reduceToNat, Nat.reduceBEq, s3], by simp (disch := first | (simp only [go_sem, gb0, eq_self]; done) | omega | (simp only [gl1, gl2]; omega)) only [go_sem, ↓reduceIte, Nat.reduceEqDiff, Nat.reduceAdd, Nat.reduceMul, Nat.reduceSub, Int.reduceToNat, Nat.reduceBEq, s4], by simp (disch := first | (simp only [go_sem, gb0, eq_self]; done) | omega | (simp only [gl1, gl2]; omega)) only [go_sem, ↓reduceIte, Nat.reduceEqDiff, Nat.reduceAdd, Nat.reduceMul, Nat.reduceSub, Int.reduceToNat, Nat.reduceBEq, s5], by simp (disch := first | (simp only [go_sem, gb0, eq_self]; done) | omega | (simp only [gl1, gl2]; omega)) only [go_sem, ↓reduceIte, Nat.reduceEqDiff, Nat.reduceAdd, Nat.reduceMul, Nat.reduceSub, Int.reduceToNat, Nat.reduceBEq, s6], by simp (disch := first | (simp only [go_sem, gb0, eq_self]; done) | omega | (simp only [gl1, gl2]; omega)) only [go_sem, ↓reduceIte, Nat.reduceEqDiff, Nat.reduceAdd, Nat.reduceMul, Nat.reduceSub, Int.reduceToNat, Nat.reduceBEq, s8], by simp (disch := first | (simp only [go_sem, gb0, eq_self]; done) | omega | (simp only [gl1, gl2]; omega)) only [go_sem, ↓reduceIte, Nat.reduceEqDiff, Nat.reduceAdd, Nat.reduceMul, Nat.reduceSub, Int.reduceToNat, Nat.reduceBEq, s24], by simp (disch := first | (simp only [go_sem, gb0, eq_self]; done) | omega | (simp only [gl1, gl2]; omega)) only [go_sem, ↓reduceIte, Nat.reduceEqDiff, Nat.reduceAdd, Nat.reduceMul, Nat.reduceSub, Int.reduceToNat, Nat.reduceBEq, s9], by simp (disch := first | (simp only [go_sem, gb0, eq_self]; done) | omega | (simp only [gl1, gl2]; omega)) only [go_sem, ↓reduceIte, Nat.reduceEqDiff, Nat.reduceAdd, Nat.reduceMul, Nat.reduceSub, Int.reduceToNat, Nat.reduceBEq, s10], by simp (disch := first | (simp only [go_sem, gb0, eq_self]; done) | omega | (simp only [gl1, gl2]; omega)) only [go_sem, ↓reduceIte, Nat.reduceEqDiff, Nat.reduceAdd, Nat.reduceMul, Nat.reduceSub, Int.reduceToNat, Nat.reduceBEq, s25], by simp (disch := first | (simp only [go_sem, gb0, eq_self]; done) | omega | (simp only [gl1, gl2]; omega)) only [go_sem, ↓reduceIte, Nat.reduceEqDiff, Nat.reduceAdd, Nat.reduceMul, Nat.reduceSub, Int.reduceToNat, Nat.reduceBEq, s39], gn, by simp [upd, Hp.put, Hp.alloc, g0], by simp [upd, Hp.put, Hp.alloc, g1], by simp [upd, Hp.put, Hp.alloc]⟩
        clear s0 s2 s3 s4 s5 s6 s8 s9 s24 s25 gn g0 g1 g2
        rintro st g ⟨s0, s2, s3, s4, s5, s6, s8, s24, s9, s10, s25, s39, gn, g0, g1, g2⟩
        have hx := XI_full (a := a) (s := s) (k := k) hm4 (by omega) ho hkm
        simp (disch := first | (simp only [go_sem, gb0, eq_self]; done) | omega | (simp only [gl1, gl2]; omega)) only [go_sem, ↓reduceIte, Nat.reduceEqDiff, Nat.reduceAdd, Nat.reduceMul, Nat.reduceSub, Int.reduceToNat, Nat.reduceBEq, s0, s2, s3, s4, s5, s6, s8, s24, s9, s10, s25, s39, hr4, hr4', g2, matA_store, hx]
        rw [ForK_normal]
        exact ⟨hlt, by simp (disch := first | (simp only [go_sem, gb0, eq_self]; done) | omega | (simp only [gl1, gl2]; omega)) only [go_sem, ↓reduceIte, Nat.reduceEqDiff, Nat.reduceAdd, Nat.reduceMul, Nat.reduceSub, Int.reduceToNat, Nat.reduceBEq, s25], by simp (disch := first | (simp only [go_sem, gb0, eq_self]; done) | omega | (simp only [gl1, gl2]; omega)) only [go_sem, ↓reduceIte, Nat.reduceEqDiff, Nat.reduceAdd, Nat.reduceMul, Nat.reduceSub, Int.reduceToNat, Nat.reduceBEq, s0], by simp (disch := first | (simp only [go_sem, gb0, eq_self]; done) | omega | (simp only [gl1, gl2]; omega)) only [go_sem, ↓reduceIte, Nat.reduceEqDiff, Nat.reduceAdd, Nat.reduceMul, Nat.reduceSub, Int.reduceToNat, Nat.reduceBEq, s2], by simp (disch := first | (simp only [go_sem, gb0, eq_self]; done) | omega | (simp only [gl1, gl2]; omega)) only [go_sem, ↓reduceIte, Nat.reduceEqDiff, Nat.reduceAdd, Nat.reduceMul, Nat.reduceSub, Int.reduceToNat, Nat.reduceBEq, s3], by simp (disch := first | (simp only [go_sem, gb0, eq_self]; done) | omega | (simp only [gl1, gl2]; omega)) only [go_sem, ↓reduceIte, Nat.reduceEqDiff, Nat.reduceAdd, Nat.reduceMul, Nat.reduceSub, Int.reduceToNat, Nat.reduceBEq, s4], by simp (disch := first | (simp only [go_sem, gb0, eq_self]; done) | omega | (simp only [gl1, gl2]; omega)) only [go_sem, ↓reduceIte, Nat.reduceEqDiff, Nat.reduceAdd, Nat.reduceMul, Nat.reduceSub, Int.reduceToNat, Nat.reduceBEq, s5], by simp (disch := first | (simp only [go_sem, gb0, eq_self]; done) | omega | (simp only [gl1, gl2]; omega)) only [go_sem, ↓reduceIte, Nat.reduceEqDiff, Nat.reduceAdd, Nat.reduceMul, Nat.reduceSub, Int.reduceToNat, Nat.reduceBEq, s6], by simp (disch := first | (simp only [go_sem, gb0, eq_self]; done) | omega | (simp only [gl1, gl2]; omega)) only [go_sem, ↓reduceIte, Nat.reduceEqDiff, Nat.reduceAdd, Nat.reduceMul, Nat.reduceSub, Int.reduceToNat, Nat.reduceBEq, s8], by simp (disch := first | (simp only [go_sem, gb0, eq_self]; done) | omega | (simp only [gl1, gl2]; omega)) only [go_sem, ↓reduceIte, Nat.reduceEqDiff, Nat.reduceAdd, Nat.reduceMul, Nat.reduceSub, Int.reduceToNat, Nat.reduceBEq, s24], by simp (disch := first | (simp only [go_sem, gb0, eq_self]; done) | omega | (simp only [gl1, gl2]; omega)) only [go_sem, ↓reduceIte, Nat.reduceEqDiff, Nat.reduceAdd, Nat.reduceMul, Nat.reduceSub, Int.reduceToNat, Nat.reduceBEq, s9, q1'], gn, by simp [upd, Hp.put, Hp.alloc, g0], by simp [upd, Hp.put, Hp.alloc, g1], by simp [upd, Hp.put, Hp.alloc]⟩
  rintro st g ⟨s0, s2, s3, s4, s5, s6, s8, gn, g1, g2⟩
  have hld : ∀ X : Mat, loadC (some (.array 4 119)) (some 20) (some (matA X, 0)) = some (.agg (matA X)) := fun X => by
    rw [loadC_agg (.array 4 119) 20 rfl _ _ (by rw [matA_len]; omega), List.drop_zero, List.take_of_length_le (by rw [matA_len]; omega)]
  have zsm : ∀ (g : Hp) (X : Mat), sealA g (.agg (matA X)) = some (.agg (matA X), g) := fun g X => sealA_agg _ (matA_pure X)
  have k83 := fun h h' K (rep : Int) => ConW_num (h := h) (h' := h') (K := K) (f83_con (n := m) (X := XS a m s) (rep := rep) hm4 (fun r c => XP_b T hl _ _ _)) rfl
  have kd := k83
  have hst : ∀ (g : Hp) (id : Nat) (d : Int), storeC g id 0 10 (some (.cells false false (zc 0))) (zc d) = some (.skp, g.put id (some (.cells false false (zc d)))) := fun g id d => store10 id _ _ rfl rfl rfl
  have hd0 : det m (repM (XS a m s) (-1)) = den0 a m s := rfl
  have bd := num0_b T hl (-1)
  have hl10 := ld10
  simp only [und103] at hl10
  have hl10z := fun d => hl10 (zc d) rfl
  by_cases hz : den0 a m s = 0
  · have hok : okCor a m n s = false := by simp [okCor, hz]
    simp (disch := first | (simp only [go_sem, gb0, eq_self]; done) | omega | (simp only [gl1, gl2]; omega)) only [go_sem, ↓reduceIte, Nat.reduceEqDiff, Nat.reduceAdd, Nat.reduceMul, Nat.reduceSub, Int.reduceToNat, Nat.reduceBEq, s0, s2, s3, s4, s5, s6, s8, gn, g1, g2, hld, zsm, k83, hd0, hal4, hst, zc_1, hz]
    refine ⟨.tup [.agg (zc 0), .bool (okCor a m n s)], ⟨_, rfl, ⟨_, rfl, rfl, rfl⟩, fun h => by rw [hok] at h; cases h⟩, ?_⟩
    rw [hok]
    have zp : ∀ g : Hp, sealA g (.agg (zc 0)) = some (.agg (zc 0), g) := fun g => sealA_agg _ rfl
    simp (disch := first | (simp only [go_sem, gb0, eq_self]; done) | omega | (simp only [gl1, gl2]; omega)) only [go_sem, ↓reduceIte, Nat.reduceEqDiff, Nat.reduceAdd, Nat.reduceMul, Nat.reduceSub, Int.reduceToNat, Nat.reduceBEq, s4, hl10z, zp]
  · simp (disch := first | (simp only [go_sem, gb0, eq_self]; done) | omega | (simp only [gl1, gl2]; omega)) only [go_sem, ↓reduceIte, Nat.reduceEqDiff, Nat.reduceAdd, Nat.reduceMul, Nat.reduceSub, Int.reduceToNat, Nat.reduceBEq, s0, s2, s3, s4, s5, s6, s8, gn, g1, g2, hld, zsm, k83, hd0, hal4, hst, zc_1, hz]
    have hnum : ∀ i : Nat, det m (repM (XS a m s) i) = num0 a m s i := fun i => rfl
    refine WP_cut (fun st g => st 0 = LLI a ∧ st 2 = .skp ∧ st 3 = .ptr 0 0 ∧ st 4 = .ptr 1 0 ∧ st 5 = .bool false ∧ st 6 = I m ∧ st 8 = .ptr 2 0 ∧ st 12 = .ptr 3 0 ∧ 3 < g.nx ∧ g.bl 1 = some (.cells false false (zc 0)) ∧ ∃ id, 3 < id ∧ id < g.nx ∧ g.bl 3 = some (cbl (.sl id 0 m 1) (den0 a m s) (List.replicate 8 false)) ∧ g.bl id = some (.cells false true ((nums0 a m s).flatMap (e1 I)))) ?_ ?_
    · refine WP_for 75 m (fun i st g => st 0 = LLI a ∧ st 2 = .skp ∧ st 3 = .ptr 0 0 ∧ st 4 = .ptr 1 0 ∧ st 5 = .bool false ∧ st 6 = I m ∧ st 8 = .ptr 2 0 ∧ st 12 = .ptr 3 0 ∧ st 74 = I m ∧ 3 < g.nx ∧ g.bl 1 = some (.cells false false (zc 0)) ∧ g.bl 2 = some (.cells false false (matA (XS a m s))) ∧ ∃ v, g.bl 3 = some (cbl v (den0 a m s) (List.replicate 8 false)) ∧ Go.Am.Own (e1 I) 1 g v ((List.range i).map (num0 a m s)) ∧ ∀ id o n z, v = .sl id o n z → 3 < id) (by simp (disch := first | (simp only [go_sem, gb0, eq_self]; done) | omega | (simp only [gl1, gl2]; omega)) only [go_sem, ↓reduceIte, Nat.reduceEqDiff, Nat.reduceAdd, Nat.reduceMul, Nat.reduceSub, Int.reduceToNat, Nat.reduceBEq])
        ⟨by simp (disch := first | (simp only [go_sem, gb0, eq_self]; done) | omega | (simp only [gl1, gl2]; omega)) only [go_sem, ↓reduceIte, Nat.reduceEqDiff, Nat.reduceAdd, Nat.reduceMul, Nat.reduceSub, Int.reduceToNat, Nat.reduceBEq, s0, s2, s3, s4, s5, s6, s8, gn], by simp (disch := first | (simp only [go_sem, gb0, eq_self]; done) | omega | (simp only [gl1, gl2]; omega)) only [go_sem, ↓reduceIte, Nat.reduceEqDiff, Nat.reduceAdd, Nat.reduceMul, Nat.reduceSub, Int.reduceToNat, Nat.reduceBEq, s0, s2, s3, s4, s5, s6, s8, gn], by simp (disch := first | (simp only [go_sem, gb0, eq_self]; done) | omega | (simp only [gl1, gl2]; omega)) only [go_sem, ↓reduceIte, Nat.reduceEqDiff, Nat.reduceAdd, Nat.reduceMul, Nat.reduceSub, Int.reduceToNat, Nat.reduceBEq, s0, s2, s3, s4, s5, s6, s8, gn], by simp (disch := first | (simp only [go_sem, gb0, eq_self]; done) | omega | (simp only [gl1, gl2]; omega)) only [go_sem, ↓reduceIte, Nat.reduceEqDiff, Nat.reduceAdd, Nat.reduceMul, Nat.reduceSub, Int.reduceToNat, Nat.reduceBEq, s0, s2, s3, s4, s5, s6, s8, gn], by simp (disch := first | (simp only [go_sem, gb0, eq_self]; done) | omega | (simp only [gl1, gl2]; omega)) only [go_sem, ↓reduceIte, Nat.reduceEqDiff, Nat.reduceAdd, Nat.reduceMul, Nat.reduceSub, Int.reduceToNat, Nat.reduceBEq, s0, s2, s3, s4, s5, s6, s8, gn], by simp (disch := first | (simp only [go_sem, gb0, eq_self]; done) | omega | (simp only [gl1, gl2]; omega)) only [go_sem, ↓reduceIte, Nat.reduceEqDiff, Nat.reduceAdd, Nat.reduceMul, Nat.reduceSub, Int.reduceToNat, Nat.reduceBEq, s0, s2, s3, s4, s5, s6, s8, gn], by simp (disch := first | (simp only [go_sem, gb0, eq_self]; done) | omega | (simp only [gl1, gl2]; omega)) only [go_sem, ↓reduceIte, Nat.reduceEqDiff, Nat.reduceAdd, Nat.reduceMul, Nat.reduceSub, Int.reduceToNat, Nat.reduceBEq, s0, s2, s3, s4, s5, s6, s8, gn], by simp (disch := first | (simp only [go_sem, gb0, eq_self]; done) | omega | (simp only [gl1, gl2]; omega)) only [go_sem, ↓reduceIte, Nat.reduceEqDiff, Nat.reduceAdd, Nat.reduceMul, Nat.reduceSub, Int.reduceToNat, Nat.reduceBEq, s0, s2, s3, s4, s5, s6, s8, gn], by simp (disch := first | (simp only [go_sem, gb0, eq_self]; done) | omega | (simp only [gl1, gl2]; omega)) only [go_sem, ↓reduceIte, Nat.reduceEqDiff, Nat.reduceAdd, Nat.reduceMul, Nat.reduceSub, Int.reduceToNat, Nat.reduceBEq, s0, s2, s3, s4, s5, s6, s8, gn], by simp [upd, Hp.put, Hp.alloc, gn], by simp [upd, Hp.put, Hp.alloc, gn, g1], by simp [upd, Hp.put, Hp.alloc, gn, g2], .nil, by rw [put_bl, if_pos rfl]; rfl, .inl ⟨rfl, rfl⟩, fun _ _ _ _ h => by cases h⟩ ?_
      clear s0 s2 s3 s4 s5 s6 s8 gn g1 g2
      rintro i st g hi s75 ⟨s0, s2, s3, s4, s5, s6, s8, s12, s74, gn, g1, g2, v, g3, ov, hid⟩
      have hlen : ((List.range i).map (num0 a m s)).length = i := by simp
      by_cases hlm : i < m
      case neg =>
        have hie : i = m := by omega
        subst hie
        simp (disch := first | (simp only [go_sem, gb0, eq_self]; done) | omega | (simp only [gl1, gl2]; omega)) only [go_sem, ↓reduceIte, Nat.reduceEqDiff, Nat.reduceAdd, Nat.reduceMul, Nat.reduceSub, Int.reduceToNat, Nat.reduceBEq, s0, s2, s3, s4, s5, s6, s8, s12, s74, s75, hlm]
        rcases ov with ⟨_, hnil⟩ | ⟨id, rfl, hlt, hbl⟩
        · rw [hnil] at hlen; simp at hlen; omega
        · rw [hlen] at g3
          exact ⟨gn, g1, id, hid _ _ _ _ rfl, hlt, g3, hbl⟩
      have hlm' : (i : Int) < m := by omega
      obtain ⟨f1, f2, f3⟩ := app_facts ov (num0 a m s i)
      have hap := app_one (P := Try.prog) ov 3 8 (I 0) (num0 a m s i) isz3 ibytes3 izero3 rfl (by rw [hlen]; omega) (by rw [hlen]; omega)
      have hapv : appV g ((List.range i).map (num0 a m s) ++ [num0 a m s i]).length 1 = .sl g.nx 0 (i + 1) 1 := by rw [List.length_append, hlen]; rfl
      rw [hapv] at hap
      have h3 := f3 3 gn fun id o n z e => by have := hid id o n z e; omega
      have h1 := f3 1 (by omega) fun id o n z e => by have := hid id o n z e; omega
      have h2 := f3 2 (by omega) fun id o n z e => by have := hid id o n z e; omega
      generalize hG : appH g v (((List.range i).map (num0 a m s) ++ [num0 a m s i]).flatMap (e1 I)) = G at *
      have hvc : v.isCell = true := by
        rcases ov with ⟨rfl, _⟩ | ⟨id, rfl, _, _⟩ <;> rfl
      have hs3 : storeC G 3 0 1 (some (cbl v (den0 a m s) (List.replicate 8 false))) [.sl g.nx 0 (i + 1) 1] = some (.skp, G.put 3 (some (cbl (.sl g.nx 0 (i + 1) 1) (den0 a m s) (List.replicate 8 false)))) := by
        rw [storeC_one 3 0 false _ (.sl g.nx 0 (i + 1) 1) rfl (by simp)]; rfl
      have h3' := h3.trans g3
      have l3 : 3 < g.nx := gn
      have l2 : 2 < g.nx := by omega
      simp (disch := first | (simp only [go_sem, gb0, eq_self]; done) | omega | (simp only [gl1, gl2]; omega)) only [go_sem, ↓reduceIte, Nat.reduceEqDiff, Nat.reduceAdd, Nat.reduceMul, Nat.reduceSub, Int.reduceToNat, Nat.reduceBEq, s0, s2, s3, s4, s5, s6, s8, s12, s74, s75, hlm, hlm', g3, g2, hld, zsm, k83, hnum, bs31, hap, h3', hs3]
      rw [ForK_normal]
      refine ⟨hlm, by simp (disch := first | (simp only [go_sem, gb0, eq_self]; done) | omega | (simp only [gl1, gl2]; omega)) only [go_sem, ↓reduceIte, Nat.reduceEqDiff, Nat.reduceAdd, Nat.reduceMul, Nat.reduceSub, Int.reduceToNat, Nat.reduceBEq, s75], by simp (disch := first | (simp only [go_sem, gb0, eq_self]; done) | omega | (simp only [gl1, gl2]; omega)) only [go_sem, ↓reduceIte, Nat.reduceEqDiff, Nat.reduceAdd, Nat.reduceMul, Nat.reduceSub, Int.reduceToNat, Nat.reduceBEq, s0], by simp (disch := first | (simp only [go_sem, gb0, eq_self]; done) | omega | (simp only [gl1, gl2]; omega)) only [go_sem, ↓reduceIte, Nat.reduceEqDiff, Nat.reduceAdd, Nat.reduceMul, Nat.reduceSub, Int.reduceToNat, Nat.reduceBEq, s2], by simp (disch := first | (simp only [go_sem, gb0, eq_self]; done) | omega | (simp only [gl1, gl2]; omega)) only [go_sem, ↓reduceIte, Nat.reduceEqDiff, Nat.reduceAdd, Nat.reduceMul, Nat.reduceSub, Int.reduceToNat, Nat.reduceBEq, s3], by simp (disch := first | (simp only [go_sem, gb0, eq_self]; done) | omega | (simp only [gl1, gl2]; omega)) only [go_sem, ↓reduceIte, Nat.reduceEqDiff, Nat.reduceAdd, Nat.reduceMul, Nat.reduceSub, Int.reduceToNat, Nat.reduceBEq, s4], by simp (disch := first | (simp only [go_sem, gb0, eq_self]; done) | omega | (simp only [gl1, gl2]; omega)) only [go_sem, ↓reduceIte, Nat.reduceEqDiff, Nat.reduceAdd, Nat.reduceMul, Nat.reduceSub, Int.reduceToNat, Nat.reduceBEq, s5], by simp (disch := first | (simp only [go_sem, gb0, eq_self]; done) | omega | (simp only [gl1, gl2]; omega)) only [go_sem, ↓reduceIte, Nat.reduceEqDiff, Nat.reduceAdd, Nat.reduceMul, Nat.reduceSub, Int.reduceToNat, Nat.reduceBEq, s6], by simp (disch := first | (simp only [go_sem, gb0, eq_self]; done) | omega | (simp only [gl1, gl2]; omega)) only [go_sem, ↓reduceIte, Nat.reduceEqDiff, Nat.reduceAdd, Nat.reduceMul, Nat.reduceSub, Int.reduceToNat, Nat.reduceBEq, s8], by simp (disch := first | (simp only [go_sem, gb0, eq_self]; done) | omega | (simp only [gl1, gl2]; omega)) only [go_sem, ↓reduceIte, Nat.reduceEqDiff, Nat.reduceAdd, Nat.reduceMul, Nat.reduceSub, Int.reduceToNat, Nat.reduceBEq, s12], by simp (disch := first | (simp only [go_sem, gb0, eq_self]; done) | omega | (simp only [gl1, gl2]; omega)) only [go_sem, ↓reduceIte, Nat.reduceEqDiff, Nat.reduceAdd, Nat.reduceMul, Nat.reduceSub, Int.reduceToNat, Nat.reduceBEq, s74], by simp [upd, Hp.put, Hp.alloc, f1]; omega, by simp [upd, Hp.put, Hp.alloc]; exact h1.trans g1, by simp [upd, Hp.put, Hp.alloc]; exact h2.trans g2, .sl g.nx 0 (i + 1) 1, by rw [put_bl, if_pos rfl], .inr ⟨g.nx, by rw [List.length_map, List.length_range], by show g.nx < G.nx; omega, ?_⟩, fun id o n z e => by cases e; exact gn⟩
      rw [put_bl, if_neg (by omega), f2, nums0_succ]
    clear s0 s2 s3 s4 s5 s6 s8 gn g1 g2
    rintro st g ⟨s0, s2, s3, s4, s5, s6, s8, s12, gn, g1, id, hid, hidl, g3, gI⟩
    have hst1 : ∀ (g : Hp) (v : AV) (d e : Int), storeC g 3 1 1 (some (cbl v d (List.replicate 8 false))) [I e] = some (.skp, g.put 3 (some (cbl v e (List.replicate 8 false)))) := fun g v d e => by
      rw [storeC_one 3 1 false _ (I e) rfl (by simp only [List.length_cons]; omega)]; rfl
    have nn : ∀ i, i < m → nth (nums0 a m s) i = num0 a m s i := fun i hi => nth_map_range _ _ _ hi
    simp (disch := first | (simp only [go_sem, gb0, eq_self]; done) | omega | (simp only [gl1, gl2]; omega)) only [go_sem, ↓reduceIte, Nat.reduceEqDiff, Nat.reduceAdd, Nat.reduceMul, Nat.reduceSub, Int.reduceToNat, Nat.reduceBEq, s0, s2, s3, s4, s5, s6, s8, s12, g3]
    refine condW_join (fun st g => st 0 = LLI a ∧ st 2 = .skp ∧ st 3 = .ptr 0 0 ∧ st 4 = .ptr 1 0 ∧ st 5 = .bool false ∧ st 6 = I m ∧ st 8 = .ptr 2 0 ∧ st 12 = .ptr 3 0 ∧ 3 < g.nx ∧ g.bl 1 = some (.cells false false (zc 0)) ∧ id < g.nx ∧ g.bl 3 = some (cbl (.sl id 0 m 1) (denC a m s) (List.replicate 8 false)) ∧ g.bl id = some (.cells false true ((numsC a m s).flatMap (e1 I)))) (fun hng => ?_) (fun hng => ?_) ?_
    · have hdc : denC a m s = 0 - den0 a m s := by rw [denC, if_pos hng]; omega
      have hnc : numsC a m s = negL a m s m := by
        unfold numsC negL
        refine List.map_congr_left fun i hi => ?_
        rw [if_pos hng, if_pos (List.mem_range.1 hi)]
      have u3 : ¬ id = 3 := by omega
      have bd' : -723394816 ≤ den0 a m s ∧ den0 a m s ≤ 723394816 := bd
      simp (disch := first | (simp only [go_sem, gb0, eq_self]; done) | omega | (simp only [gl1, gl2]; omega)) only [go_sem, ↓reduceIte, Nat.reduceEqDiff, Nat.reduceAdd, Nat.reduceMul, Nat.reduceSub, Int.reduceToNat, Nat.reduceBEq, s0, s2, s3, s4, s5, s6, s8, s12, g3, hst1]
      refine WP_for 104 m (fun i st g => st 0 = LLI a ∧ st 2 = .skp ∧ st 3 = .ptr 0 0 ∧ st 4 = .ptr 1 0 ∧ st 5 = .bool false ∧ st 6 = I m ∧ st 8 = .ptr 2 0 ∧ st 12 = .ptr 3 0 ∧ st 103 = I m ∧ 3 < g.nx ∧ g.bl 1 = some (.cells false false (zc 0)) ∧ id < g.nx ∧ g.bl 3 = some (cbl (.sl id 0 m 1) (0 - den0 a m s) (List.replicate 8 false)) ∧ g.bl id = some (.cells false true ((negL a m s i).flatMap (e1 I)))) (by simp (disch := first | (simp only [go_sem, gb0, eq_self]; done) | omega | (simp only [gl1, gl2]; omega)) only [go_sem, ↓reduceIte, Nat.reduceEqDiff, Nat.reduceAdd, Nat.reduceMul, Nat.reduceSub, Int.reduceToNat, Nat.reduceBEq])
        ⟨by simp (disch := first | (simp only [go_sem, gb0, eq_self]; done) | omega | (simp only [gl1, gl2]; omega)) only [go_sem, ↓reduceIte, Nat.reduceEqDiff, Nat.reduceAdd, Nat.reduceMul, Nat.reduceSub, Int.reduceToNat, Nat.reduceBEq, s0, s2, s3, s4, s5, s6, s8, s12], by simp (disch := first | (simp only [go_sem, gb0, eq_self]; done) | omega | (simp only [gl1, gl2]; omega)) only [go_sem, ↓reduceIte, Nat.reduceEqDiff, Nat.reduceAdd, Nat.reduceMul, Nat.reduceSub, Int.reduceToNat, Nat.reduceBEq, s0, s2, s3, s4, s5, s6, s8, s12], by simp (disch := first | (simp only [go_sem, gb0, eq_self]; done) | omega | (simp only [gl1, gl2]; omega)) only [go_sem, ↓reduceIte, Nat.reduceEqDiff, Nat.reduceAdd, Nat.reduceMul, Nat.reduceSub, Int.reduceToNat, Nat.reduceBEq, s0, s2, s3, s4, s5, s6, s8, s12], by simp (disch := first | (simp only [go_sem, gb0, eq_self]; done) | omega | (simp only [gl1, gl2]; omega)) only [go_sem, ↓reduceIte, Nat.reduceEqDiff, Nat.reduceAdd, Nat.reduceMul, Nat.reduceSub, Int.reduceToNat, Nat.reduceBEq, s0, s2, s3, s4, s5, s6, s8, s12], by simp (disch := first | (simp only [go_sem, gb0, eq_self]; done) | omega | (simp only [gl1, gl2]; omega)) only [go_sem, ↓reduceIte, Nat.reduceEqDiff, Nat.reduceAdd, Nat.reduceMul, Nat.reduceSub, Int.reduceToNat, Nat.reduceBEq, s0, s2, s3, s4, s5, s6, s8, s12], by simp (disch := first | (simp only [go_sem, gb0, eq_self]; done) | omega | (simp only [gl1, gl2]; omega)) only [go_sem, ↓reduceIte, Nat.reduceEqDiff, Nat.reduceAdd, Nat.reduceMul, Nat.reduceSub, Int.reduceToNat, Nat.reduceBEq, s0, s2, s3, s4, s5, s6, s8, s12], by simp (disch := first | (simp only [go_sem, gb0, eq_self]; done) | omega | (simp only [gl1, gl2]; omega)) only [go_sem, ↓reduceIte, Nat.reduceEqDiff, Nat.reduceAdd, Nat.reduceMul, Nat.reduceSub, Int.reduceToNat, Nat.reduceBEq, s0, s2, s3, s4, s5, s6, s8, s12], by simp (disch := first | (simp only [go_sem, gb0, eq_self]; done) | omega | (simp only [gl1, gl2]; omega)) only [go_sem, ↓reduceIte, Nat.reduceEqDiff, Nat.reduceAdd, Nat.reduceMul, Nat.reduceSub, Int.reduceToNat, Nat.reduceBEq, s0, s2, s3, s4, s5, s6, s8, s12], by simp (disch := first | (simp only [go_sem, gb0, eq_self]; done) | omega | (simp only [gl1, gl2]; omega)) only [go_sem, ↓reduceIte, Nat.reduceEqDiff, Nat.reduceAdd, Nat.reduceMul, Nat.reduceSub, Int.reduceToNat, Nat.reduceBEq, s0, s2, s3, s4, s5, s6, s8, s12], gn, by simp [upd, Hp.put, Hp.alloc, g1], hidl, by simp [upd, Hp.put, Hp.alloc], by simp [upd, Hp.put, Hp.alloc, u3, gI]; rfl⟩ ?_
      clear s0 s2 s3 s4 s5 s6 s8 s12 gn g1 g3 gI hidl
      rintro i st g hi s104 ⟨s0, s2, s3, s4, s5, s6, s8, s12, s103, gn, g1, hidl, g3, gI⟩
      by_cases hlm : i < m
      case neg =>
        have hie : i = m := by omega
        subst hie
        simp (disch := first | (simp only [go_sem, gb0, eq_self]; done) | omega | (simp only [gl1, gl2]; omega)) only [go_sem, ↓reduceIte, Nat.reduceEqDiff, Nat.reduceAdd, Nat.reduceMul, Nat.reduceSub, Int.reduceToNat, Nat.reduceBEq, s0, s2, s3, s4, s5, s6, s8, s12, s103, s104, hlm]
        exact ⟨gn, g1, hidl, by rw [g3, hdc], by rw [gI, hnc]⟩
      have hlm' : (i : Int) < m := by omega
      have bi := num0_b T hl i
      rw [hnum] at bi
      have hli : i < (negL a m s i).length := by rw [negL_len]; exact hlm
      have ei : ((negL a m s i).flatMap (e1 I))[i]? = some (I (num0 a m s i)) := by
        rw [flat_get _ _ _ hli, negL, nth_map_range _ _ _ hlm, if_neg (by omega)]
      have hset : (negL a m s i).set i (0 - num0 a m s i) = negL a m s (i + 1) := by rw [Int.zero_sub]; exact negL_set hlm
      simp (disch := first | (simp only [go_sem, gb0, eq_self]; done) | omega | (simp only [gl1, gl2]; omega)) only [go_sem, ↓reduceIte, Nat.reduceEqDiff, Nat.reduceAdd, Nat.reduceMul, Nat.reduceSub, Int.reduceToNat, Nat.reduceBEq, s0, s2, s3, s4, s5, s6, s8, s12, s103, s104, hlm, hlm', g3, gI, ei, hli, hset]
      rw [ForK_normal]
      have u1 : ¬ (1 : Nat) = id := by omega
      have u3' : ¬ (3 : Nat) = id := by omega
      exact ⟨hlm, by simp (disch := first | (simp only [go_sem, gb0, eq_self]; done) | omega | (simp only [gl1, gl2]; omega)) only [go_sem, ↓reduceIte, Nat.reduceEqDiff, Nat.reduceAdd, Nat.reduceMul, Nat.reduceSub, Int.reduceToNat, Nat.reduceBEq, s104], by simp (disch := first | (simp only [go_sem, gb0, eq_self]; done) | omega | (simp only [gl1, gl2]; omega)) only [go_sem, ↓reduceIte, Nat.reduceEqDiff, Nat.reduceAdd, Nat.reduceMul, Nat.reduceSub, Int.reduceToNat, Nat.reduceBEq, s0], by simp (disch := first | (simp only [go_sem, gb0, eq_self]; done) | omega | (simp only [gl1, gl2]; omega)) only [go_sem, ↓reduceIte, Nat.reduceEqDiff, Nat.reduceAdd, Nat.reduceMul, Nat.reduceSub, Int.reduceToNat, Nat.reduceBEq, s2], by simp (disch := first | (simp only [go_sem, gb0, eq_self]; done) | omega | (simp only [gl1, gl2]; omega)) only [go_sem, ↓reduceIte, Nat.reduceEqDiff, Nat.reduceAdd, Nat.reduceMul, Nat.reduceSub, Int.reduceToNat, Nat.reduceBEq, s3], by simp (disch := first | (simp only [go_sem, gb0, eq_self]; done) | omega | (simp only [gl1, gl2]; omega)) only [go_sem, ↓reduceIte, Nat.reduceEqDiff, Nat.reduceAdd, Nat.reduceMul, Nat.reduceSub, Int.reduceToNat, Nat.reduceBEq, s4], by simp (disch := first | (simp only [go_sem, gb0, eq_self]; done) | omega | (simp only [gl1, gl2]; omega)) only [go_sem, ↓reduceIte, Nat.reduceEqDiff, Nat.reduceAdd, Nat.reduceMul, Nat.reduceSub, Int.reduceToNat, Nat.reduceBEq, s5], by simp (disch := first | (simp only [go_sem, gb0, eq_self]; done) | omega | (simp only [gl1, gl2]; omega)) only [go_sem, ↓reduceIte, Nat.reduceEqDiff, Nat.reduceAdd, Nat.reduceMul, Nat.reduceSub, Int.reduceToNat, Nat.reduceBEq, s6], by simp (disch := first | (simp only [go_sem, gb0, eq_self]; done) | omega | (simp only [gl1, gl2]; omega)) only [go_sem, ↓reduceIte, Nat.reduceEqDiff, Nat.reduceAdd, Nat.reduceMul, Nat.reduceSub, Int.reduceToNat, Nat.reduceBEq, s8], by simp (disch := first | (simp only [go_sem, gb0, eq_self]; done) | omega | (simp only [gl1, gl2]; omega)) only [go_sem, ↓reduceIte, Nat.reduceEqDiff, Nat.reduceAdd, Nat.reduceMul, Nat.reduceSub, Int.reduceToNat, Nat.reduceBEq, s12], by simp (disch := first | (simp only [go_sem, gb0, eq_self]; done) | omega | (simp only [gl1, gl2]; omega)) only [go_sem, ↓reduceIte, Nat.reduceEqDiff, Nat.reduceAdd, Nat.reduceMul, Nat.reduceSub, Int.reduceToNat, Nat.reduceBEq, s103], gn, by simp [upd, Hp.put, Hp.alloc, u1]; exact g1, hidl, by rw [put_bl, if_neg u3']; exact g3, by simp [upd, Hp.put, Hp.alloc]⟩
    · have hdc : denC a m s = den0 a m s := by rw [denC, if_neg hng]
      have hnc : numsC a m s = nums0 a m s := by
        unfold numsC nums0
        refine List.map_congr_left fun i hi => ?_
        rw [if_neg hng]
      simp (disch := first | (simp only [go_sem, gb0, eq_self]; done) | omega | (simp only [gl1, gl2]; omega)) only [go_sem, ↓reduceIte, Nat.reduceEqDiff, Nat.reduceAdd, Nat.reduceMul, Nat.reduceSub, Int.reduceToNat, Nat.reduceBEq]
      exact ⟨s0, s2, s3, s4, s5, s6, s8, s12, gn, g1, hidl, by rw [g3, hdc], by rw [gI, hnc]⟩
    · clear s0 s2 s3 s4 s5 s6 s8 s12 gn g1 g3 gI hidl
      rintro st g ⟨s0, s2, s3, s4, s5, s6, s8, s12, gn, g1, hidl, g3, gI⟩
      have hnl : (numsC a m s).length = m := by simp [numsC]
      obtain ⟨G, hs, f1, f2, d, bs, f3, f4, f5⟩ := f84_shr (h := g) T (xs := numsC a m s) (den := denC a m s) (C := 3) (id := id) hnl (numsC_b T hl) (by omega) gn g3 gI
      have hcl := fun K => CallW_shr (K := K) 84 _ shr84 hs
      have hokc : okCor a m n s = okLab a m n (numsC a m s) (denC a m s) := by simp [okCor, hz]
      rw [← hokc] at hcl f5
      have hcb : ((.sl id 0 m 1) :: I d :: bs.flatMap (e1 AV.bool)).length = 10 := cb_len _ _ f4
      have hl10c := hl10 _ hcb
      have hca : ((.sl id 0 m 1) :: I d :: bs.flatMap (e1 AV.bool)).all AV.isCell = true := by
        rw [List.all_cons, List.all_cons, List.all_eq_true.2 fun y hy => ?_]
        · rfl
        · obtain ⟨b, _, hb⟩ := List.mem_flatMap.1 hy
          simp only [e1, List.mem_singleton] at hb
          rw [hb]; rfl
      have hcaL : (LI (numsC a m s) :: I d :: bs.flatMap (e1 AV.bool)).all AV.isCell = true := by
        rw [List.all_cons, List.all_cons, List.all_eq_true.2 fun y hy => ?_]
        · rfl
        · obtain ⟨b, _, hb⟩ := List.mem_flatMap.1 hy
          simp only [e1, List.mem_singleton] at hb
          rw [hb]; rfl
      have hst10 : storeC G 1 0 10 (some (.cells false false (zc 0))) ((.sl id 0 m 1) :: I d :: bs.flatMap (e1 AV.bool)) = some (.skp, G.put 1 (some (.cells false false ((.sl id 0 m 1) :: I d :: bs.flatMap (e1 AV.bool))))) := store10 1 _ _ rfl hcb hca
      have G1 := (f2 1 (by decide)).trans g1
      have GI := (f2 id (by omega)).trans gI
      simp (disch := first | (simp only [go_sem, gb0, eq_self]; done) | omega | (simp only [gl1, gl2]; omega)) only [go_sem, ↓reduceIte, Nat.reduceEqDiff, Nat.reduceAdd, Nat.reduceMul, Nat.reduceSub, Int.reduceToNat, Nat.reduceBEq, s0, s2, s3, s4, s5, s6, s8, s12]
      refine Eq.mpr (hcl _) ?_
      simp (disch := first | (simp only [go_sem, gb0, eq_self]; done) | omega | (simp only [gl1, gl2]; omega)) only [go_sem, ↓reduceIte, Nat.reduceEqDiff, Nat.reduceAdd, Nat.reduceMul, Nat.reduceSub, Int.reduceToNat, Nat.reduceBEq, s0, s2, s3, s4, s5, s6, s8, s12, f3, hl10c, G1, hst10]
      obtain ⟨G', hsl⟩ := seal_corner (h := G.put 1 (some (.cells false false ((.sl id 0 m 1) :: I d :: bs.flatMap (e1 AV.bool))))) (id := id) (xs := numsC a m s) (d := d) (bs := bs) (by rw [put_bl, if_neg (by omega)]; exact GI)
      rw [hnl] at hsl
      refine ⟨.tup [corA (numsC a m s) d bs, .bool (okCor a m n s)], ⟨_, rfl, ⟨_, rfl, cb_len _ _ f4, hcaL⟩, fun h => ?_⟩, ?_⟩
      · obtain ⟨rfl, rfl⟩ := f5 h; rfl
      · simp (disch := first | (simp only [go_sem, gb0, eq_self]; done) | omega | (simp only [gl1, gl2]; omega)) only [go_sem, ↓reduceIte, Nat.reduceEqDiff, Nat.reduceAdd, Nat.reduceMul, Nat.reduceSub, Int.reduceToNat, Nat.reduceBEq, s4, hl10c, hsl]
end Go.Proofs.Ytcdpkgmkckfonaa

set_option linter.unusedVariables false
set_option linter.unusedSimpArgs false
set_option maxRecDepth 10000
namespace Go.Proofs.Ytcdpkgmkckfonaa
open Go Go.Am

variable {h h' : Hp} {K : AV → Hp → Prop}

def fitsB (bs cs : List Bool) (m n : Nat) : Bool := (List.range m).all (fun i => nth bs i || nth cs (n + i)) && (List.range n).all (fun j => nth bs (m + j) || nth cs j)
theorem cb_get (v w : AV) {bs : List Bool} {i : Nat} (hi : i < bs.length) : (v :: w :: bs.flatMap (e1 AV.bool))[2 + i]? = some (.bool (nth bs i)) := by
  rw [Nat.add_comm, List.getElem?_cons_succ, List.getElem?_cons_succ, flat_get _ _ _ hi]
theorem f69_con {m n : Nat} (hm : m ≤ 4) (hn : n ≤ 4) {xs ys : List Int} {d e : Int} {bs cs : List Bool} (hb : bs.length = 8) (hc : cs.length = 8) : Con Try.prog cfg 69 [corA xs d bs, corA ys e cs, I m, I n] (.bool (fitsB bs cs m n)) := by
  have hall : ∀ (xs : List Int) (d : Int) (bs : List Bool), (LI xs :: I d :: bs.flatMap (e1 AV.bool)).all AV.isCell = true := fun xs d bs => by
    rw [List.all_cons, List.all_cons, List.all_eq_true.2 fun y hy => ?_]
    · rfl
    · obtain ⟨b, _, hb⟩ := List.mem_flatMap.1 hy
      simp only [e1, List.mem_singleton] at hb
      rw [hb]; rfl
  have hal : ∀ (g : Hp) (xs : List Int) (d : Int) (bs : List Bool), allocB g (some (corA xs d bs)) = some (.ptr g.nx 0, g.alloc (.cells false false (LI xs :: I d :: bs.flatMap (e1 AV.bool)))) := fun g xs d bs => allocB_agg _ (hall _ _ _)
  refine Con_intro Try.func69 rfl ok69 (Nat.le_of_ble_eq_true rfl) rfl ?_
  simp only [Try.f69, Option.getD_some, initSt4]
  simp (disch := first | (simp only [go_sem, gb0, eq_self]; done) | omega | (simp only [gl1, gl2]; omega)) only [go_sem, ↓reduceIte, Nat.reduceEqDiff, Nat.reduceAdd, Nat.reduceMul, Nat.reduceSub, Int.reduceToNat, Nat.reduceBEq, hal]
  refine WP_cut (fun st g => st 2 = I m ∧ st 3 = I n ∧ st 4 = .ptr 0 0 ∧ st 5 = .ptr 1 0 ∧ st 8 = .bool false ∧ g.bl 0 = some (.cells false false (LI xs :: I d :: bs.flatMap (e1 AV.bool))) ∧ g.bl 1 = some (.cells false false (LI ys :: I e :: cs.flatMap (e1 AV.bool))) ∧ ∀ k, k < m → (nth bs k || nth cs (n + k)) = true) ?_ ?_
  · refine WP_for 12 m (fun i st g => st 2 = I m ∧ st 3 = I n ∧ st 4 = .ptr 0 0 ∧ st 5 = .ptr 1 0 ∧ st 8 = .bool false ∧ st 11 = I m ∧ g.bl 0 = some (.cells false false (LI xs :: I d :: bs.flatMap (e1 AV.bool))) ∧ g.bl 1 = some (.cells false false (LI ys :: I e :: cs.flatMap (e1 AV.bool))) ∧ ∀ k, k < i → (nth bs k || nth cs (n + k)) = true) (by simp (disch := first | (simp only [go_sem, gb0, eq_self]; done) | omega | (simp only [gl1, gl2]; omega)) only [go_sem, ↓reduceIte, Nat.reduceEqDiff, Nat.reduceAdd, Nat.reduceMul, Nat.reduceSub, Int.reduceToNat, Nat.reduceBEq]) ⟨by simp (disch := first | (simp only [go_sem, gb0, eq_self]; done) | omega | (simp only [gl1, gl2]; omega)) only [go_sem, ↓reduceIte, Nat.reduceEqDiff, Nat.reduceAdd, Nat.reduceMul, Nat.reduceSub, Int.reduceToNat, Nat.reduceBEq], by simp (disch := first | (simp only [go_sem, gb0, eq_self]; done) | omega | (simp only [gl1, gl2]; omega)) only [go_sem, ↓reduceIte, Nat.reduceEqDiff, Nat.reduceAdd, Nat.reduceMul, Nat.reduceSub, Int.reduceToNat, Nat.reduceBEq], by simp (disch := first | (simp only [go_sem, gb0, eq_self]; done) | omega | (simp only [gl1, gl2]; omega)) only [go_sem, ↓reduceIte, Nat.reduceEqDiff, Nat.reduceAdd, Nat.reduceMul, Nat.reduceSub, Int.reduceToNat, Nat.reduceBEq], by simp (disch := first | (simp only [go_sem, gb0, eq_self]; done) | omega | (simp only [gl1, gl2]; omega)) only [go_sem, ↓reduceIte, Nat.reduceEqDiff, Nat.reduceAdd, Nat.reduceMul, Nat.reduceSub, Int.reduceToNat, Nat.reduceBEq], by simp (disch := first | (simp only [go_sem, gb0, eq_self]; done) | omega | (simp only [gl1, gl2]; omega)) only [go_sem, ↓reduceIte, Nat.reduceEqDiff, Nat.reduceAdd, Nat.reduceMul, Nat.reduceSub, Int.reduceToNat, Nat.reduceBEq], by simp (disch := first | (simp only [go_sem, gb0, eq_self]; done) | omega | (simp only [gl1, gl2]; omega)) only [go_sem, ↓reduceIte, Nat.reduceEqDiff, Nat.reduceAdd, Nat.reduceMul, Nat.reduceSub, Int.reduceToNat, Nat.reduceBEq], by simp (disch := first | (simp only [go_sem, gb0, eq_self]; done) | omega | (simp only [gl1, gl2]; omega)) only [go_sem, ↓reduceIte, Nat.reduceEqDiff, Nat.reduceAdd, Nat.reduceMul, Nat.reduceSub, Int.reduceToNat, Nat.reduceBEq], by simp (disch := first | (simp only [go_sem, gb0, eq_self]; done) | omega | (simp only [gl1, gl2]; omega)) only [go_sem, ↓reduceIte, Nat.reduceEqDiff, Nat.reduceAdd, Nat.reduceMul, Nat.reduceSub, Int.reduceToNat, Nat.reduceBEq], fun k hk => by omega⟩ ?_
    rintro i st g hi s12 ⟨s2, s3, s4, s5, s8, s11, g0, g1, hle⟩
    by_cases hlt : i < m
    case neg =>
      have hie : i = m := by omega
      subst hie
      simp (disch := first | (simp only [go_sem, gb0, eq_self]; done) | omega | (simp only [gl1, gl2]; omega)) only [go_sem, ↓reduceIte, Nat.reduceEqDiff, Nat.reduceAdd, Nat.reduceMul, Nat.reduceSub, Int.reduceToNat, Nat.reduceBEq, s2, s3, s4, s5, s8, s11, s12, hlt]
      exact ⟨g0, g1, hle⟩
    have hlt' : (i : Int) < m := by omega
    have h8 : (i : Int) < 8 := by omega
    have h8' : (n : Int) + i < 8 := by omega
    have e0 := cb_get (LI xs) (I d) (bs := bs) (i := i) (by omega)
    have e1' := cb_get (LI ys) (I e) (bs := cs) (i := n + i) (by omega)
    have htn : ((n : Int) + (i : Int)).toNat = n + i := by omega
    cases hx : nth bs i with
    | true =>
      rw [hx] at e0
      simp (disch := first | (simp only [go_sem, gb0, eq_self]; done) | omega | (simp only [gl1, gl2]; omega)) only [go_sem, ↓reduceIte, Nat.reduceEqDiff, Nat.reduceAdd, Nat.reduceMul, Nat.reduceSub, Int.reduceToNat, Nat.reduceBEq, s2, s3, s4, s5, s8, s11, s12, hlt, hlt', h8, g0, e0]
      rw [ForK_normal]
      exact ⟨hlt, by simp (disch := first | (simp only [go_sem, gb0, eq_self]; done) | omega | (simp only [gl1, gl2]; omega)) only [go_sem, ↓reduceIte, Nat.reduceEqDiff, Nat.reduceAdd, Nat.reduceMul, Nat.reduceSub, Int.reduceToNat, Nat.reduceBEq, s12], by simp (disch := first | (simp only [go_sem, gb0, eq_self]; done) | omega | (simp only [gl1, gl2]; omega)) only [go_sem, ↓reduceIte, Nat.reduceEqDiff, Nat.reduceAdd, Nat.reduceMul, Nat.reduceSub, Int.reduceToNat, Nat.reduceBEq, s2], by simp (disch := first | (simp only [go_sem, gb0, eq_self]; done) | omega | (simp only [gl1, gl2]; omega)) only [go_sem, ↓reduceIte, Nat.reduceEqDiff, Nat.reduceAdd, Nat.reduceMul, Nat.reduceSub, Int.reduceToNat, Nat.reduceBEq, s3], by simp (disch := first | (simp only [go_sem, gb0, eq_self]; done) | omega | (simp only [gl1, gl2]; omega)) only [go_sem, ↓reduceIte, Nat.reduceEqDiff, Nat.reduceAdd, Nat.reduceMul, Nat.reduceSub, Int.reduceToNat, Nat.reduceBEq, s4], by simp (disch := first | (simp only [go_sem, gb0, eq_self]; done) | omega | (simp only [gl1, gl2]; omega)) only [go_sem, ↓reduceIte, Nat.reduceEqDiff, Nat.reduceAdd, Nat.reduceMul, Nat.reduceSub, Int.reduceToNat, Nat.reduceBEq, s5], by simp (disch := first | (simp only [go_sem, gb0, eq_self]; done) | omega | (simp only [gl1, gl2]; omega)) only [go_sem, ↓reduceIte, Nat.reduceEqDiff, Nat.reduceAdd, Nat.reduceMul, Nat.reduceSub, Int.reduceToNat, Nat.reduceBEq, s8], by simp (disch := first | (simp only [go_sem, gb0, eq_self]; done) | omega | (simp only [gl1, gl2]; omega)) only [go_sem, ↓reduceIte, Nat.reduceEqDiff, Nat.reduceAdd, Nat.reduceMul, Nat.reduceSub, Int.reduceToNat, Nat.reduceBEq, s11], g0, g1, fun k hk => by
        by_cases q : k = i
        · subst q; rw [hx]; rfl
        · exact hle k (by omega)⟩
    | false =>
      rw [hx] at e0
      cases hy : nth cs (n + i) with
      | true =>
        rw [hy] at e1'
        simp (disch := first | (simp only [go_sem, gb0, eq_self]; done) | omega | (simp only [gl1, gl2]; omega)) only [go_sem, ↓reduceIte, Nat.reduceEqDiff, Nat.reduceAdd, Nat.reduceMul, Nat.reduceSub, Int.reduceToNat, Nat.reduceBEq, s2, s3, s4, s5, s8, s11, s12, hlt, hlt', h8, h8', g0, g1, e0, e1', htn]
        rw [ForK_normal]
        exact ⟨hlt, by simp (disch := first | (simp only [go_sem, gb0, eq_self]; done) | omega | (simp only [gl1, gl2]; omega)) only [go_sem, ↓reduceIte, Nat.reduceEqDiff, Nat.reduceAdd, Nat.reduceMul, Nat.reduceSub, Int.reduceToNat, Nat.reduceBEq, s12], by simp (disch := first | (simp only [go_sem, gb0, eq_self]; done) | omega | (simp only [gl1, gl2]; omega)) only [go_sem, ↓reduceIte, Nat.reduceEqDiff, Nat.reduceAdd, Nat.reduceMul, Nat.reduceSub, Int.reduceToNat, Nat.reduceBEq, s2], by simp (disch := first | (simp only [go_sem, gb0, eq_self]; done) | omega | (simp only [gl1, gl2]; omega)) only [go_sem, ↓reduceIte, Nat.reduceEqDiff, Nat.reduceAdd, Nat.reduceMul, Nat.reduceSub, Int.reduceToNat, Nat.reduceBEq, s3], by simp (disch := first | (simp only [go_sem, gb0, eq_self]; done) | omega | (simp only [gl1, gl2]; omega)) only [go_sem, ↓reduceIte, Nat.reduceEqDiff, Nat.reduceAdd, Nat.reduceMul, Nat.reduceSub, Int.reduceToNat, Nat.reduceBEq, s4], by simp (disch := first | (simp only [go_sem, gb0, eq_self]; done) | omega | (simp only [gl1, gl2]; omega)) only [go_sem, ↓reduceIte, Nat.reduceEqDiff, Nat.reduceAdd, Nat.reduceMul, Nat.reduceSub, Int.reduceToNat, Nat.reduceBEq, s5], by simp (disch := first | (simp only [go_sem, gb0, eq_self]; done) | omega | (simp only [gl1, gl2]; omega)) only [go_sem, ↓reduceIte, Nat.reduceEqDiff, Nat.reduceAdd, Nat.reduceMul, Nat.reduceSub, Int.reduceToNat, Nat.reduceBEq, s8], by simp (disch := first | (simp only [go_sem, gb0, eq_self]; done) | omega | (simp only [gl1, gl2]; omega)) only [go_sem, ↓reduceIte, Nat.reduceEqDiff, Nat.reduceAdd, Nat.reduceMul, Nat.reduceSub, Int.reduceToNat, Nat.reduceBEq, s11], g0, g1, fun k hk => by
          by_cases q : k = i
          · subst q; rw [hx, hy]; rfl
          · exact hle k (by omega)⟩
      | false =>
        rw [hy] at e1'
        have hf : fitsB bs cs m n = false := by
          have : (List.range m).all (fun i => nth bs i || nth cs (n + i)) = false := by
            rw [List.all_eq_false]; exact ⟨i, List.mem_range.2 hlt, by rw [hx, hy]; decide⟩
          rw [fitsB, this]; rfl
        rw [hf]
        simp (disch := first | (simp only [go_sem, gb0, eq_self]; done) | omega | (simp only [gl1, gl2]; omega)) only [go_sem, ↓reduceIte, Nat.reduceEqDiff, Nat.reduceAdd, Nat.reduceMul, Nat.reduceSub, Int.reduceToNat, Nat.reduceBEq, s2, s3, s4, s5, s8, s11, s12, hlt, hlt', h8, h8', g0, g1, e0, e1', htn]
  rintro st g ⟨s2, s3, s4, s5, s8, g0, g1, hle⟩
  have h1 : (List.range m).all (fun i => nth bs i || nth cs (n + i)) = true := by
    rw [List.all_eq_true]; intro i hi; exact hle i (List.mem_range.1 hi)
  simp (disch := first | (simp only [go_sem, gb0, eq_self]; done) | omega | (simp only [gl1, gl2]; omega)) only [go_sem, ↓reduceIte, Nat.reduceEqDiff, Nat.reduceAdd, Nat.reduceMul, Nat.reduceSub, Int.reduceToNat, Nat.reduceBEq, s2, s3, s4, s5, s8]
  refine WP_for 31 n (fun j st g => st 2 = I m ∧ st 3 = I n ∧ st 4 = .ptr 0 0 ∧ st 5 = .ptr 1 0 ∧ st 8 = .bool false ∧ st 30 = I n ∧ g.bl 0 = some (.cells false false (LI xs :: I d :: bs.flatMap (e1 AV.bool))) ∧ g.bl 1 = some (.cells false false (LI ys :: I e :: cs.flatMap (e1 AV.bool))) ∧ ∀ k, k < j → (nth bs (m + k) || nth cs k) = true) (by simp (disch := first | (simp only [go_sem, gb0, eq_self]; done) | omega | (simp only [gl1, gl2]; omega)) only [go_sem, ↓reduceIte, Nat.reduceEqDiff, Nat.reduceAdd, Nat.reduceMul, Nat.reduceSub, Int.reduceToNat, Nat.reduceBEq]) ⟨by simp (disch := first | (simp only [go_sem, gb0, eq_self]; done) | omega | (simp only [gl1, gl2]; omega)) only [go_sem, ↓reduceIte, Nat.reduceEqDiff, Nat.reduceAdd, Nat.reduceMul, Nat.reduceSub, Int.reduceToNat, Nat.reduceBEq, s2, s3, s4, s5, s8], by simp (disch := first | (simp only [go_sem, gb0, eq_self]; done) | omega | (simp only [gl1, gl2]; omega)) only [go_sem, ↓reduceIte, Nat.reduceEqDiff, Nat.reduceAdd, Nat.reduceMul, Nat.reduceSub, Int.reduceToNat, Nat.reduceBEq, s2, s3, s4, s5, s8], by simp (disch := first | (simp only [go_sem, gb0, eq_self]; done) | omega | (simp only [gl1, gl2]; omega)) only [go_sem, ↓reduceIte, Nat.reduceEqDiff, Nat.reduceAdd, Nat.reduceMul, Nat.reduceSub, Int.reduceToNat, Nat.reduceBEq, s2, s3, s4, s5, s8], by simp (disch := first | (simp only [go_sem, gb0, eq_self]; done) | omega | (simp only [gl1, gl2]; omega)) only [go_sem, ↓reduceIte, Nat.reduceEqDiff, Nat.reduceAdd, Nat.reduceMul, Nat.reduceSub, Int.reduceToNat, Nat.reduceBEq, s2, s3, s4, s5, s8], by simp (disch := first | (simp only [go_sem, gb0, eq_self]; done) | omega | (simp only [gl1, gl2]; omega)) only [go_sem, ↓reduceIte, Nat.reduceEqDiff, Nat.reduceAdd, Nat.reduceMul, Nat.reduceSub, Int.reduceToNat, Nat.reduceBEq, s2, s3, s4, s5, s8], by simp (disch := first | (simp only [go_sem, gb0, eq_self]; done) | omega | (simp only [gl1, gl2]; omega)) only [go_sem, ↓reduceIte, Nat.reduceEqDiff, Nat.reduceAdd, Nat.reduceMul, Nat.reduceSub, Int.reduceToNat, Nat.reduceBEq, s2, s3, s4, s5, s8], g0, g1, fun k hk => by omega⟩ ?_
  clear s2 s3 s4 s5 s8 g0 g1
  rintro j st g hj s31 ⟨s2, s3, s4, s5, s8, s30, g0, g1, hle2⟩
  by_cases hlt : j < n
  case neg =>
    have hje : j = n := by omega
    subst hje
    have hf : fitsB bs cs m j = true := by
      have : (List.range j).all (fun k => nth bs (m + k) || nth cs k) = true := by
        rw [List.all_eq_true]; intro i hi; exact hle2 i (List.mem_range.1 hi)
      rw [fitsB, this, h1]; rfl
    rw [hf]
    simp (disch := first | (simp only [go_sem, gb0, eq_self]; done) | omega | (simp only [gl1, gl2]; omega)) only [go_sem, ↓reduceIte, Nat.reduceEqDiff, Nat.reduceAdd, Nat.reduceMul, Nat.reduceSub, Int.reduceToNat, Nat.reduceBEq, s2, s3, s4, s5, s8, s30, s31, hlt]
  have hlt' : (j : Int) < n := by omega
  have h8 : (j : Int) < 8 := by omega
  have h8' : (m : Int) + j < 8 := by omega
  have e0 := cb_get (LI xs) (I d) (bs := bs) (i := m + j) (by omega)
  have e1' := cb_get (LI ys) (I e) (bs := cs) (i := j) (by omega)
  have htn : ((m : Int) + (j : Int)).toNat = m + j := by omega
  cases hx : nth bs (m + j) with
  | true =>
    rw [hx] at e0
    simp (disch := first | (simp only [go_sem, gb0, eq_self]; done) | omega | (simp only [gl1, gl2]; omega)) only [go_sem, ↓reduceIte, Nat.reduceEqDiff, Nat.reduceAdd, Nat.reduceMul, Nat.reduceSub, Int.reduceToNat, Nat.reduceBEq, s2, s3, s4, s5, s8, s30, s31, hlt, hlt', h8', htn, g0, e0]
    rw [ForK_normal]
    exact ⟨hlt, by simp (disch := first | (simp only [go_sem, gb0, eq_self]; done) | omega | (simp only [gl1, gl2]; omega)) only [go_sem, ↓reduceIte, Nat.reduceEqDiff, Nat.reduceAdd, Nat.reduceMul, Nat.reduceSub, Int.reduceToNat, Nat.reduceBEq, s31], by simp (disch := first | (simp only [go_sem, gb0, eq_self]; done) | omega | (simp only [gl1, gl2]; omega)) only [go_sem, ↓reduceIte, Nat.reduceEqDiff, Nat.reduceAdd, Nat.reduceMul, Nat.reduceSub, Int.reduceToNat, Nat.reduceBEq, s2], by simp (disch := first | (simp only [go_sem, gb0, eq_self]; done) | omega | (simp only [gl1, gl2]; omega)) only [go_sem, ↓reduceIte, Nat.reduceEqDiff, Nat.reduceAdd, Nat.reduceMul, Nat.reduceSub, Int.reduceToNat, Nat.reduceBEq, s3], by simp (disch := first | (simp only [go_sem, gb0, eq_self]; done) | omega | (simp only [gl1, gl2]; omega)) only [go_sem, ↓reduceIte, Nat.reduceEqDiff, Nat.reduceAdd, Nat.reduceMul, Nat.reduceSub, Int.reduceToNat, Nat.reduceBEq, s4], by simp (disch := first | (simp only [go_sem, gb0, eq_self]; done) | omega | (simp only [gl1, gl2]; omega)) only [go_sem, ↓reduceIte, Nat.reduceEqDiff, Nat.reduceAdd, Nat.reduceMul, Nat.reduceSub, Int.reduceToNat, Nat.reduceBEq, s5], by simp (disch := first | (simp only [go_sem, gb0, eq_self]; done) | omega | (simp only [gl1, gl2]; omega)) only [go_sem, ↓reduceIte, Nat.reduceEqDiff, Nat.reduceAdd, Nat.reduceMul, Nat.reduceSub, Int.reduceToNat, Nat.reduceBEq, s8], by simp (disch := first | (simp only [go_sem, gb0, eq_self]; done) | omega | (simp only [gl1, gl2]; omega)) only [go_sem, ↓reduceIte, Nat.reduceEqDiff, Nat.reduceAdd, Nat.reduceMul, Nat.reduceSub, Int.reduceToNat, Nat.reduceBEq, s30], g0, g1, fun k hk => by
      by_cases q : k = j
      · subst q; rw [hx]; rfl
      · exact hle2 k (by omega)⟩
  | false =>
    rw [hx] at e0
    cases hy : nth cs j with
    | true =>
      rw [hy] at e1'
      simp (disch := first | (simp only [go_sem, gb0, eq_self]; done) | omega | (simp only [gl1, gl2]; omega)) only [go_sem, ↓reduceIte, Nat.reduceEqDiff, Nat.reduceAdd, Nat.reduceMul, Nat.reduceSub, Int.reduceToNat, Nat.reduceBEq, s2, s3, s4, s5, s8, s30, s31, hlt, hlt', h8, h8', g0, g1, e0, e1', htn]
      rw [ForK_normal]
      exact ⟨hlt, by simp (disch := first | (simp only [go_sem, gb0, eq_self]; done) | omega | (simp only [gl1, gl2]; omega)) only [go_sem, ↓reduceIte, Nat.reduceEqDiff, Nat.reduceAdd, Nat.reduceMul, Nat.reduceSub, Int.reduceToNat, Nat.reduceBEq, s31], by simp (disch := first | (simp only [go_sem, gb0, eq_self]; done) | omega | (simp only [gl1, gl2]; omega)) only [go_sem, ↓reduceIte, Nat.reduceEqDiff, Nat.reduceAdd, Nat.reduceMul, Nat.reduceSub, Int.reduceToNat, Nat.reduceBEq, s2], by simp (disch := first | (simp only [go_sem, gb0, eq_self]; done) | omega | (simp only [gl1, gl2]; omega)) only [go_sem, ↓reduceIte, Nat.reduceEqDiff, Nat.reduceAdd, Nat.reduceMul, Nat.reduceSub, Int.reduceToNat, Nat.reduceBEq, s3], by simp (disch := first | (simp only [go_sem, gb0, eq_self]; done) | omega | (simp only [gl1, gl2]; omega)) only [go_sem, ↓reduceIte, Nat.reduceEqDiff, Nat.reduceAdd, Nat.reduceMul, Nat.reduceSub, Int.reduceToNat, Nat.reduceBEq, s4], by simp (disch := first | (simp only [go_sem, gb0, eq_self]; done) | omega | (simp only [gl1, gl2]; omega)) only [go_sem, ↓reduceIte, Nat.reduceEqDiff, Nat.reduceAdd, Nat.reduceMul, Nat.reduceSub, Int.reduceToNat, Nat.reduceBEq, s5], by simp (disch := first | (simp only [go_sem, gb0, eq_self]; done) | omega | (simp only [gl1, gl2]; omega)) only [go_sem, ↓reduceIte, Nat.reduceEqDiff, Nat.reduceAdd, Nat.reduceMul, Nat.reduceSub, Int.reduceToNat, Nat.reduceBEq, s8], by simp (disch := first | (simp only [go_sem, gb0, eq_self]; done) | omega | (simp only [gl1, gl2]; omega)) only [go_sem, ↓reduceIte, Nat.reduceEqDiff, Nat.reduceAdd, Nat.reduceMul, Nat.reduceSub, Int.reduceToNat, Nat.reduceBEq, s30], g0, g1, fun k hk => by
        by_cases q : k = j
        · subst q; rw [hx, hy]; rfl
        · exact hle2 k (by omega)⟩
    | false =>
      rw [hy] at e1'
      have hf : fitsB bs cs m n = false := by
        have : (List.range n).all (fun k => nth bs (m + k) || nth cs k) = false := by
          rw [List.all_eq_false]; exact ⟨j, List.mem_range.2 hlt, by rw [hx, hy]; decide⟩
        rw [fitsB, this, Bool.and_false]
      rw [hf]
      simp (disch := first | (simp only [go_sem, gb0, eq_self]; done) | omega | (simp only [gl1, gl2]; omega)) only [go_sem, ↓reduceIte, Nat.reduceEqDiff, Nat.reduceAdd, Nat.reduceMul, Nat.reduceSub, Int.reduceToNat, Nat.reduceBEq, s2, s3, s4, s5, s8, s30, s31, hlt, hlt', h8, h8', g0, g1, e0, e1', htn]
end Go.Proofs.Ytcdpkgmkckfonaa

set_option linter.unusedVariables false
set_option linter.unusedSimpArgs false
set_option maxRecDepth 10000
namespace Go.Proofs.Ytcdpkgmkckfonaa
open Go Go.Am Go.RowKit

variable {h h' : Hp} {K : AV → Hp → Prop}

theorem hext0 : ExtOk Try.prog cfg := fun _ _ _ h => by cases h
theorem hlate0 : ∀ id n, cfg.late id n = [] := fun _ _ => rfl
/-- The set of a number: its bits. -/
def bitsL (N x : Nat) : List Bool := (List.range N).map fun i => x.testBit i
theorem bitsL_len (N x : Nat) : (bitsL N x).length = N := by simp [bitsL]
theorem bitsL_on {N x i : Nat} (h : i < N) : onB (bitsL N x) i = x.testBit i := by
  simp [onB, bitsL, h]
theorem bitsL_pad {N x : Nat} (h8 : N ≤ 8) : fillR 8 (fun i => x.testBit i) false N = pad8 (bitsL N x) := by
  refine list_ext_nth (by rw [fillR_len, pad8_len]) fun c hc => ?_
  rw [fillR_len] at hc
  rw [fillR_nth hc, pad8, fillR_nth hc, bitsL_len]
  by_cases h : c < N
  · rw [if_pos h, if_pos h, bitsL_on h]
  · rw [if_neg h, if_neg h]
def setOk (N M x : Nat) : Bool := decide (cardB (bitsL N x) = M)
def selL (N M k : Nat) : List AV := ((List.range k).filter (setOk N M)).map fun x => actsA (bitsL N x)
theorem selL_succ (N M k : Nat) : selL N M (k + 1) = selL N M k ++ (if setOk N M k then [actsA (bitsL N k)] else []) := by
  unfold selL
  rw [List.range_succ, List.filter_append, List.map_append]
  congr 1
  by_cases h : setOk N M k = true
  · simp [h]
  · simp [h]
theorem selL_pre {N M k k' : Nat} (h : k ≤ k') : selL N M k <+: selL N M k' := by
  obtain ⟨d, rfl⟩ : ∃ d, k' = k + d := ⟨k' - k, by omega⟩
  clear h
  induction d with
  | zero => exact List.prefix_rfl
  | succ d ih => rw [← Nat.add_assoc, selL_succ]; exact ih.trans (List.prefix_append _ _)
theorem bools_any {w : World} {c : Ctx} {bs : List Bool} {v : Value} (h : VR w c (.agg (bs.flatMap (e1 AV.bool))) v) (w' : World) (c' : Ctx) : VR w' c' (.agg (bs.flatMap (e1 AV.bool))) v := by
  generalize hq : bs.flatMap (e1 AV.bool) = q at h
  cases h with
  | agg _ vs hl hcell hv =>
    subst hq
    refine .agg _ vs hl hcell fun j y hj => ?_
    have hlt : j < bs.length := by have := (List.getElem?_eq_some_iff.1 hj).1; rwa [flat_len] at this
    have h1 := hv j y hj
    rw [flat_get _ _ _ hlt] at hj
    cases hj
    rw [h1.bool_inv]; exact .bool _
theorem acts_rep {w : World} {c : Ctx} {s : List Bool} {v : Value} (h : VR w c (actsA s) v) (f0 : Nat → Prop) (n : Nat) (w' : World) : Rep f0 n w' (actsA s) v := fun c' _ _ => bools_any h w' c'

theorem sets_seq (N M : Nat) (hN : N ≤ 8) (hM : M ≤ 8) (m : Nat) (ad1 ad2 : Addr) (w : World) (hb1 : ad1.block < w.heap.size) (hb2 : ad2.block < w.heap.size) (hc1 : w.cell? ad1 = some (.int .i64 N)) (hc2 : w.cell? ad2 = some (.int .i64 M)) (f0 : Nat → Prop) :
    SeqN Try.prog m 82 #[.pointer (some ad1), .pointer (some ad2)] f0 (selL N M (2 ^ N)) w := by
  intro l J Jx W hW hJ hX hY h0
  have hB6 : 2 ^ N ≤ 256 := by have := Nat.pow_le_pow_right (n := 2) (by decide) hN; omega
  have esh := fun t => shl_one (P := Try.prog) t N (by omega)
  obtain ⟨B, hB⟩ : ∃ B, B = 2 ^ N := ⟨_, rfl⟩
  rw [← hB] at esh hY hB6 ⊢
  have hcW1 : W.cell? ad1 = some (.int .i64 N) := (hW.cell (p := ad1) hb1).trans hc1
  have hcW2 : W.cell? ad2 = some (.int .i64 M) := (hW.cell (p := ad2) hb2).trans hc2
  have hbW1 : ad1.block < W.heap.size := Nat.lt_of_lt_of_le hb1 hW.size
  have hbW2 : ad2.block < W.heap.size := Nat.lt_of_lt_of_le hb2 hW.size
  obtain ⟨c0, hc0⟩ : ∃ c : Ctx, c = { base := W.heap.size, nx := 0, loc := fun _ => .dead, fz := fun k => k = ad1.block ∨ k = ad2.block } := ⟨_, rfl⟩
  have H0 : HR W c0 Hp.empty := by rw [hc0]; exact ctx_nil fun k hk => by rcases hk with hk | hk <;> rw [hk] <;> assumption
  have ptr1 : ∀ (ad : Addr) (x : Int), (ad = ad1 ∨ ad = ad2) → W.cell? ad = some (.int .i64 x) → VR W c0 (.pp [I x]) (.pointer (some ad)) := fun ad x hq hcl => by
    refine .pp _ _ (fun _ => .int .i64 x) (fun _ => by rw [hc0]; rcases hq with rfl | rfl; exact .inl rfl; exact .inr rfl) (by simp [AV.isCell]) (fun j hj => ?_) (fun j y hy => ?_)
    · have : j = 0 := by simpa using hj
      subst this
      have e0 : ad.add 0 = ad := by unfold Addr.add; simp
      rw [e0]; exact hcl
    · have : j = 0 := by
        have := (List.getElem?_eq_some_iff.1 hy).1
        simpa using this
      subst this
      cases hy; exact .int _ _
  have S0 : SR 37 W c0 (initSt [.undef, .pp [I N], .pp [I M]]) { tmps := #[.func (.yield l) #[] #[], .pointer (some ad1), .pointer (some ad2)] ++ Array.replicate (37 - 3) Go.undef, defers := [] } := by
    refine args_start (n := 37) ⟨rfl, fun j v hj => ?_⟩ (Nat.le_of_ble_eq_true rfl)
    match j, hj with
    | 0, hj => cases hj; exact .undef _
    | 1, hj => cases hj; exact ptr1 ad1 N (.inl rfl) hcW1
    | 2, hj => cases hj; exact ptr1 ad2 M (.inr rfl) hcW2
  have hbase0 : c0.base = W.heap.size := by rw [hc0]
  refine callsIn_of_wp (fn := Try.f82) (c := Try.f82.body.getD .skip) Try.func82 rfl trivial ?_
  have hy0 : ({ tmps := #[.func (.yield l) #[] #[], .pointer (some ad1), .pointer (some ad2)] ++ Array.replicate (37 - 3) Go.undef, defers := [] } : Act).tmps[0]? = some (.func (.yield l) #[] #[]) := by simp
  obtain ⟨a0, ha0⟩ : ∃ a0 : Act, { tmps := #[.func (.yield l) #[] #[], .pointer (some ad1), .pointer (some ad2)] ++ Array.replicate (37 - 3) Go.undef, defers := [] } = a0 := ⟨_, rfl⟩
  rw [ha0] at S0 hy0
  have hgo : (Try.f82.body.getD .skip).wpIn (rF none) m Try.prog (bodyPost Try.prog Try.f82 fun e W' => (∃ v, e = .returned v) ∧ (J (selL N M B) W' ∨ (∃ pre x, pre ++ [x] <+: selL N M B ∧ Jx (pre ++ [x]) W'))) a0 W := ?_
  · rw [← ha0] at hgo; exact hgo
  simp only [Try.f82, Option.getD_some]
  refine wpIn_seq (WP.in_ hext0 hlate0 0 rfl rfl (R := fun x st h => x = .normal ∧ st 1 = .pp [I N] ∧ st 2 = .pp [I M] ∧ st 9 = I B ∧ st 10 = I (0 : Nat)) ?_ H0 S0 ?_)
  · simp only [initSt3]
    simp (disch := first | (simp only [go_sem, gb0, eq_self]; done) | omega | (simp only [gl1, gl2]; omega)) only [go_sem, ↓reduceIte, Nat.reduceEqDiff, Nat.reduceAdd, Nat.reduceMul, Nat.reduceSub, Int.reduceToNat, Nat.reduceBEq, esh]
    rfl
  rintro x st h ⟨rfl, s1, s2, s9, s10⟩ w1 c1 a1 E1 H1 S1 F1
  refine wpIn_block (wpIn_loop (fun a w' => ∃ ctx h st k, HR w' ctx h ∧ SR 37 w' ctx st a ∧ ctx.base = W.heap.size ∧ st 1 = .pp [I N] ∧ st 2 = .pp [I M] ∧ st 9 = I B ∧ st 10 = I (k : Nat) ∧ k ≤ B ∧ J (selL N M k) w' ∧ Below W.heap.size W w' ∧ a.tmps[0]? = some (.func (.yield l) #[] #[]))
    (fun a _ => B - (intOf (a.tmps.getD 10 Go.undef)).toNat) ?_ ?_)
  · have hb := E1.below
    rw [hbase0] at hb
    exact ⟨c1, h, st, 0, H1, S1, E1.base.trans hbase0, s1, s2, s9, s10, Nat.zero_le _, hJ _ _ _ h0 hb, hb, Eq.trans F1 hy0⟩
  rintro a w2 ⟨ctx, h, st, k, H, S, hbase, s1, s2, s9, s10, hk, hj, hbl, hy⟩
  have hval10 : a.tmps.getD 10 Go.undef = .int .i64 k := by
    have := S.val 10
    rw [s10] at this
    generalize a.tmps.getD 10 Go.undef = v at this
    cases this; rfl
  refine wpIn_seq (WP.in_ hext0 hlate0 0 rfl rfl (R := fun x st h' => x = .normal ∧ st 1 = .pp [I N] ∧ st 2 = .pp [I M] ∧ st 9 = I B ∧ st 10 = I k ∧ st 11 = .bool (decide (k < B))) ?_ H S ?_)
  · by_cases hlt : k < B
    · simp (disch := first | (simp only [go_sem, gb0, eq_self]; done) | omega | (simp only [gl1, gl2]; omega)) only [go_sem, ↓reduceIte, Nat.reduceEqDiff, Nat.reduceAdd, Nat.reduceMul, Nat.reduceSub, Int.reduceToNat, Nat.reduceBEq, s1, s2, s9, s10, hlt, decide_true]
    · simp (disch := first | (simp only [go_sem, gb0, eq_self]; done) | omega | (simp only [gl1, gl2]; omega)) only [go_sem, ↓reduceIte, Nat.reduceEqDiff, Nat.reduceAdd, Nat.reduceMul, Nat.reduceSub, Int.reduceToNat, Nat.reduceBEq, s1, s2, s9, s10, hlt, decide_false]
  rintro x st h3 ⟨rfl, s1, s2, s9, s10, s11⟩ w3 c3 a3 E3 H3 S3 F3
  refine wpIn_seq ?_
  by_cases hlt : k < B
  case neg =>
    have hkB : k = B := by omega
    rw [show decide (k < B) = false by simp [hlt]] at s11
    refine WP.in_ hext0 hlate0 0 rfl rfl (R := fun x st h => x = .exit 0) ?_ H3 S3 ?_
    · simp (disch := first | (simp only [go_sem, gb0, eq_self]; done) | omega | (simp only [gl1, gl2]; omega)) only [go_sem, ↓reduceIte, Nat.reduceEqDiff, Nat.reduceAdd, Nat.reduceMul, Nat.reduceSub, Int.reduceToNat, Nat.reduceBEq, s11]
    rintro x st' h' rfl w4 c4 a4 E4 H4 S4 F4
    refine ⟨S4.defers, _, results_none rfl _ _ _, ⟨_, rfl⟩, .inl ?_⟩
    have hb1 := (E3.trans E4).below
    rw [hbase] at hb1
    rw [← hkB]
    exact hJ _ _ _ hj hb1
  rw [show decide (k < B) = true by simp [hlt]] at s11
  refine WP.in_ hext0 hlate0 0 rfl rfl (R := fun x st h' => x = .normal ∧ st 1 = .pp [I N] ∧ st 2 = .pp [I M] ∧ st 9 = I B ∧ st 10 = I k) ?_ H3 S3 ?_
  · simp (disch := first | (simp only [go_sem, gb0, eq_self]; done) | omega | (simp only [gl1, gl2]; omega)) only [go_sem, ↓reduceIte, Nat.reduceEqDiff, Nat.reduceAdd, Nat.reduceMul, Nat.reduceSub, Int.reduceToNat, Nat.reduceBEq, s1, s2, s9, s10, s11]
  rintro x st h4 ⟨rfl, s1, s2, s9, s10⟩ w4 c4 a4 E4 H4 S4 F4
  have hbase4 : c4.base = W.heap.size := ((E3.trans E4).base).trans hbase
  have hb4 := (E3.trans E4).below
  rw [hbase] at hb4
  have hj4 : J (selL N M k) w4 := hJ _ _ _ hj hb4
  have hbl4 := hbl.trans hb4
  have hy4 : a4.tmps[0]? = some (.func (.yield l) #[] #[]) := Eq.trans F4 (Eq.trans F3 hy)
  clear H S H3 S3 F3 F4 E3 E4 hb4 hj hy hbl
  refine wpIn_seq (wpIn_block ?_)
  refine wpIn_seq (WP.in_ hext0 hlate0 0 rfl rfl (R := fun x st h' => x = .normal ∧ st 1 = .pp [I N] ∧ st 2 = .pp [I M] ∧ st 9 = I B ∧ st 10 = I k ∧ st 4 = I k) ?_ H4 S4 ?_)
  · simp (disch := first | (simp only [go_sem, gb0, eq_self]; done) | omega | (simp only [gl1, gl2]; omega)) only [go_sem, ↓reduceIte, Nat.reduceEqDiff, Nat.reduceAdd, Nat.reduceMul, Nat.reduceSub, Int.reduceToNat, Nat.reduceBEq, s1, s2, s9, s10]
  rintro x st h5 ⟨rfl, s1, s2, s9, s10, s4⟩ w5 c5 a5 E5 H5 S5 F5
  refine wpIn_seq (WP.in_ hext0 hlate0 0 rfl rfl (R := fun x st h' => x = .normal ∧ st 1 = .pp [I N] ∧ st 2 = .pp [I M] ∧ st 9 = I B ∧ st 10 = I k ∧ st 4 = I k ∧ st 5 = .ptr h5.nx 0 ∧ h5.nx < h'.nx ∧ h'.bl h5.nx = some (.cells false false ((fillR 8 (fun i => k.testBit i) false 0).flatMap (e1 .bool)))) ?_ H5 S5 ?_)
  · simp (disch := first | (simp only [go_sem, gb0, eq_self]; done) | omega | (simp only [gl1, gl2]; omega)) only [go_sem, ↓reduceIte, Nat.reduceEqDiff, Nat.reduceAdd, Nat.reduceMul, Nat.reduceSub, Int.reduceToNat, Nat.reduceBEq, s1, s2, s9, s10, s4]
    exact ⟨Nat.lt_succ_self _, rfl⟩
  rintro x st h6 ⟨rfl, s1, s2, s9, s10, s4, s5, hid, hbl⟩ w6 c6 a6 E6 H6 S6 F6
  generalize h5.nx = id at *
  refine wpIn_seq (WP.in_ hext0 hlate0 0 rfl rfl (R := fun x st h' => x = .normal ∧ st 1 = .pp [I N] ∧ st 2 = .pp [I M] ∧ st 9 = I B ∧ st 10 = I k ∧ st 4 = I k ∧ st 5 = .ptr id 0 ∧ st 6 = I 0 ∧ h' = h6) ?_ H6 S6 ?_)
  · simp (disch := first | (simp only [go_sem, gb0, eq_self]; done) | omega | (simp only [gl1, gl2]; omega)) only [go_sem, ↓reduceIte, Nat.reduceEqDiff, Nat.reduceAdd, Nat.reduceMul, Nat.reduceSub, Int.reduceToNat, Nat.reduceBEq, s1, s2, s9, s10, s4, s5]
  rintro x st h7 ⟨rfl, s1, s2, s9, s10, s4, s5, s6, rfl⟩ w7 c7 a7 E7 H7 S7 F7
  refine wpIn_seq (WP.in_ hext0 hlate0 0 rfl rfl (R := fun x st h' => x = .normal ∧ st 1 = .pp [I N] ∧ st 2 = .pp [I M] ∧ st 9 = I B ∧ st 10 = I k ∧ st 5 = .ptr id 0 ∧ st 6 = I (cardB (bitsL N k)) ∧ h'.bl id = some (.cells false false ((pad8 (bitsL N k)).flatMap (e1 .bool)))) ?_ H7 S7 ?_)
  · simp (disch := first | (simp only [go_sem, gb0, eq_self]; done) | omega | (simp only [gl1, gl2]; omega)) only [go_sem, ↓reduceIte, Nat.reduceEqDiff, Nat.reduceAdd, Nat.reduceMul, Nat.reduceSub, Int.reduceToNat, Nat.reduceBEq, s1, s2, s9, s10, s4, s5, s6]
    refine WP_for 14 N (fun i st h => st 1 = .pp [I N] ∧ st 2 = .pp [I M] ∧ st 9 = I B ∧ st 10 = I k ∧ st 4 = I k ∧ st 5 = .ptr id 0 ∧ st 13 = I N ∧ st 6 = I (cardB ((bitsL N k).take i)) ∧ id < h.nx ∧ h.bl id = some (.cells false false ((fillR 8 (fun i => k.testBit i) false i).flatMap (e1 .bool)))) (by simp (disch := first | (simp only [go_sem, gb0, eq_self]; done) | omega | (simp only [gl1, gl2]; omega)) only [go_sem, ↓reduceIte, Nat.reduceEqDiff, Nat.reduceAdd, Nat.reduceMul, Nat.reduceSub, Int.reduceToNat, Nat.reduceBEq]) ⟨by simp (disch := first | (simp only [go_sem, gb0, eq_self]; done) | omega | (simp only [gl1, gl2]; omega)) only [go_sem, ↓reduceIte, Nat.reduceEqDiff, Nat.reduceAdd, Nat.reduceMul, Nat.reduceSub, Int.reduceToNat, Nat.reduceBEq, s1, s2, s9, s10, s4, s5], by simp (disch := first | (simp only [go_sem, gb0, eq_self]; done) | omega | (simp only [gl1, gl2]; omega)) only [go_sem, ↓reduceIte, Nat.reduceEqDiff, Nat.reduceAdd, Nat.reduceMul, Nat.reduceSub, Int.reduceToNat, Nat.reduceBEq, s1, s2, s9, s10, s4, s5], by simp (disch := first | (simp only [go_sem, gb0, eq_self]; done) | omega | (simp only [gl1, gl2]; omega)) only [go_sem, ↓reduceIte, Nat.reduceEqDiff, Nat.reduceAdd, Nat.reduceMul, Nat.reduceSub, Int.reduceToNat, Nat.reduceBEq, s1, s2, s9, s10, s4, s5], by simp (disch := first | (simp only [go_sem, gb0, eq_self]; done) | omega | (simp only [gl1, gl2]; omega)) only [go_sem, ↓reduceIte, Nat.reduceEqDiff, Nat.reduceAdd, Nat.reduceMul, Nat.reduceSub, Int.reduceToNat, Nat.reduceBEq, s1, s2, s9, s10, s4, s5], by simp (disch := first | (simp only [go_sem, gb0, eq_self]; done) | omega | (simp only [gl1, gl2]; omega)) only [go_sem, ↓reduceIte, Nat.reduceEqDiff, Nat.reduceAdd, Nat.reduceMul, Nat.reduceSub, Int.reduceToNat, Nat.reduceBEq, s1, s2, s9, s10, s4, s5], by simp (disch := first | (simp only [go_sem, gb0, eq_self]; done) | omega | (simp only [gl1, gl2]; omega)) only [go_sem, ↓reduceIte, Nat.reduceEqDiff, Nat.reduceAdd, Nat.reduceMul, Nat.reduceSub, Int.reduceToNat, Nat.reduceBEq, s1, s2, s9, s10, s4, s5], by simp (disch := first | (simp only [go_sem, gb0, eq_self]; done) | omega | (simp only [gl1, gl2]; omega)) only [go_sem, ↓reduceIte, Nat.reduceEqDiff, Nat.reduceAdd, Nat.reduceMul, Nat.reduceSub, Int.reduceToNat, Nat.reduceBEq, s1, s2, s9, s10, s4, s5], by simp (disch := first | (simp only [go_sem, gb0, eq_self]; done) | omega | (simp only [gl1, gl2]; omega)) only [go_sem, ↓reduceIte, Nat.reduceEqDiff, Nat.reduceAdd, Nat.reduceMul, Nat.reduceSub, Int.reduceToNat, Nat.reduceBEq, s6]; rfl, hid, hbl⟩ ?_
    clear s1 s2 s9 s10 s4 s5 s6 hbl hid
    rintro i st h hi s14 ⟨s1, s2, s9, s10, s4, s5, s13, s6, hnx, b0⟩
    by_cases hlt : i < N
    case neg =>
      have hin : i = N := by omega
      subst hin
      have ht : (bitsL i k).take i = bitsL i k := List.take_of_length_le (by rw [bitsL_len]; exact Nat.le_refl _)
      rw [ht] at s6
      rw [bitsL_pad hN] at b0
      simp (disch := first | (simp only [go_sem, gb0, eq_self]; done) | omega | (simp only [gl1, gl2]; omega)) only [go_sem, ↓reduceIte, Nat.reduceEqDiff, Nat.reduceAdd, Nat.reduceMul, Nat.reduceSub, Int.reduceToNat, Nat.reduceBEq, s1, s2, s9, s10, s4, s5, s13, s6, s14, hlt]
      exact b0
    have hsh := shr_nat (P := Try.prog) 3 k i (by omega)
    have hl8 : i < (fillR 8 (fun i => k.testBit i) false i).length := by rw [fillR_len]; omega
    have hset : (fillR 8 (fun i => k.testBit i) false i).set i (k.testBit i) = fillR 8 (fun i => k.testBit i) false (i + 1) := fillR_set (by omega)
    have h8 : (i : Int) < 8 := by omega
    have hcnt : cardB ((bitsL N k).take (i + 1)) = cardB ((bitsL N k).take i) + (if k.testBit i then 1 else 0) := by rw [take_on (by rw [bitsL_len]; exact hlt), bitsL_on hlt]
    have hcb := take_le (bitsL N k) i
    have hcb2 : cardB (bitsL N k) ≤ N := by have := List.count_le_length (a := true) (l := bitsL N k); rw [bitsL_len] at this; exact this
    have hsl : k >>> i < 9223372036854775808 := by rw [Nat.shiftRight_eq_div_pow]; exact Nat.lt_of_le_of_lt (Nat.div_le_self _ _) (by omega)
    have hand : binA Try.prog .and 3 (I ((k >>> i : Nat) : Int)) (I 1) = some (I ((if k.testBit i then 1 else 0 : Nat) : Int)) := by
      rw [show ((1 : Int)) = ((1 : Nat) : Int) from rfl, binA_and (P := Try.prog) 3 (k >>> i) 1 hsl (by omega), bit_test]
    cases htb : k.testBit i with
    | true =>
      rw [htb] at hand hset hcnt
      have e1' : ((if true = true then 1 else 0 : Nat) : Int) = 1 := rfl
      rw [e1'] at hand
      have hcnt' : ((cardB ((bitsL N k).take (i + 1)) : Nat) : Int) = (cardB ((bitsL N k).take i) : Int) + 1 := by rw [if_pos rfl] at hcnt; omega
      simp (disch := first | (simp only [go_sem, gb0, eq_self]; done) | omega | (simp only [gl1, gl2]; omega)) only [go_sem, ↓reduceIte, Nat.reduceEqDiff, Nat.reduceAdd, Nat.reduceMul, Nat.reduceSub, Int.reduceToNat, Nat.reduceBEq, s1, s2, s9, s10, s4, s5, s13, s6, s14, hlt, b0, hsh, hl8, hand, h8, hset, eq_self, decide_true]
      rw [ForK_normal]
      exact ⟨hlt, by simp (disch := first | (simp only [go_sem, gb0, eq_self]; done) | omega | (simp only [gl1, gl2]; omega)) only [go_sem, ↓reduceIte, Nat.reduceEqDiff, Nat.reduceAdd, Nat.reduceMul, Nat.reduceSub, Int.reduceToNat, Nat.reduceBEq, s14], by simp (disch := first | (simp only [go_sem, gb0, eq_self]; done) | omega | (simp only [gl1, gl2]; omega)) only [go_sem, ↓reduceIte, Nat.reduceEqDiff, Nat.reduceAdd, Nat.reduceMul, Nat.reduceSub, Int.reduceToNat, Nat.reduceBEq, s1], by simp (disch := first | (simp only [go_sem, gb0, eq_self]; done) | omega | (simp only [gl1, gl2]; omega)) only [go_sem, ↓reduceIte, Nat.reduceEqDiff, Nat.reduceAdd, Nat.reduceMul, Nat.reduceSub, Int.reduceToNat, Nat.reduceBEq, s2], by simp (disch := first | (simp only [go_sem, gb0, eq_self]; done) | omega | (simp only [gl1, gl2]; omega)) only [go_sem, ↓reduceIte, Nat.reduceEqDiff, Nat.reduceAdd, Nat.reduceMul, Nat.reduceSub, Int.reduceToNat, Nat.reduceBEq, s9], by simp (disch := first | (simp only [go_sem, gb0, eq_self]; done) | omega | (simp only [gl1, gl2]; omega)) only [go_sem, ↓reduceIte, Nat.reduceEqDiff, Nat.reduceAdd, Nat.reduceMul, Nat.reduceSub, Int.reduceToNat, Nat.reduceBEq, s10], by simp (disch := first | (simp only [go_sem, gb0, eq_self]; done) | omega | (simp only [gl1, gl2]; omega)) only [go_sem, ↓reduceIte, Nat.reduceEqDiff, Nat.reduceAdd, Nat.reduceMul, Nat.reduceSub, Int.reduceToNat, Nat.reduceBEq, s4], by simp (disch := first | (simp only [go_sem, gb0, eq_self]; done) | omega | (simp only [gl1, gl2]; omega)) only [go_sem, ↓reduceIte, Nat.reduceEqDiff, Nat.reduceAdd, Nat.reduceMul, Nat.reduceSub, Int.reduceToNat, Nat.reduceBEq, s5], by simp (disch := first | (simp only [go_sem, gb0, eq_self]; done) | omega | (simp only [gl1, gl2]; omega)) only [go_sem, ↓reduceIte, Nat.reduceEqDiff, Nat.reduceAdd, Nat.reduceMul, Nat.reduceSub, Int.reduceToNat, Nat.reduceBEq, s13], by simp (disch := first | (simp only [go_sem, gb0, eq_self]; done) | omega | (simp only [gl1, gl2]; omega)) only [go_sem, ↓reduceIte, Nat.reduceEqDiff, Nat.reduceAdd, Nat.reduceMul, Nat.reduceSub, Int.reduceToNat, Nat.reduceBEq, s6, hcnt'], hnx, by simp (disch := first | (simp only [go_sem, gb0, eq_self]; done) | omega | (simp only [gl1, gl2]; omega)) only [go_sem, ↓reduceIte, Nat.reduceEqDiff, Nat.reduceAdd, Nat.reduceMul, Nat.reduceSub, Int.reduceToNat, Nat.reduceBEq]⟩
    | false =>
      rw [htb] at hand hset hcnt
      have e1' : ((if false = true then 1 else 0 : Nat) : Int) = 0 := rfl
      have e01 : decide ((0 : Int) = 1) = false := by decide
      rw [e1'] at hand
      have hcnt' : cardB ((bitsL N k).take (i + 1)) = cardB ((bitsL N k).take i) := by simpa using hcnt
      have hnil : fillR 8 (fun i => k.testBit i) false (i + 1) = fillR 8 (fun i => k.testBit i) false i := by
        refine list_ext_nth (by rw [fillR_len, fillR_len]) fun c hc => ?_
        rw [fillR_len] at hc
        rw [fillR_nth hc, fillR_nth hc]
        by_cases e : c = i
        · subst e; rw [if_pos (by omega), if_neg (by omega), htb]
        · by_cases e2 : c < i
          · rw [if_pos (by omega), if_pos e2]
          · rw [if_neg (by omega), if_neg e2]
      simp (disch := first | (simp only [go_sem, gb0, eq_self]; done) | omega | (simp only [gl1, gl2]; omega)) only [go_sem, ↓reduceIte, Nat.reduceEqDiff, Nat.reduceAdd, Nat.reduceMul, Nat.reduceSub, Int.reduceToNat, Nat.reduceBEq, s1, s2, s9, s10, s4, s5, s13, s6, s14, hlt, b0, hsh, hl8, hand, h8, e01]
      rw [ForK_normal]
      exact ⟨hlt, by simp (disch := first | (simp only [go_sem, gb0, eq_self]; done) | omega | (simp only [gl1, gl2]; omega)) only [go_sem, ↓reduceIte, Nat.reduceEqDiff, Nat.reduceAdd, Nat.reduceMul, Nat.reduceSub, Int.reduceToNat, Nat.reduceBEq, s14], by simp (disch := first | (simp only [go_sem, gb0, eq_self]; done) | omega | (simp only [gl1, gl2]; omega)) only [go_sem, ↓reduceIte, Nat.reduceEqDiff, Nat.reduceAdd, Nat.reduceMul, Nat.reduceSub, Int.reduceToNat, Nat.reduceBEq, s1], by simp (disch := first | (simp only [go_sem, gb0, eq_self]; done) | omega | (simp only [gl1, gl2]; omega)) only [go_sem, ↓reduceIte, Nat.reduceEqDiff, Nat.reduceAdd, Nat.reduceMul, Nat.reduceSub, Int.reduceToNat, Nat.reduceBEq, s2], by simp (disch := first | (simp only [go_sem, gb0, eq_self]; done) | omega | (simp only [gl1, gl2]; omega)) only [go_sem, ↓reduceIte, Nat.reduceEqDiff, Nat.reduceAdd, Nat.reduceMul, Nat.reduceSub, Int.reduceToNat, Nat.reduceBEq, s9], by simp (disch := first | (simp only [go_sem, gb0, eq_self]; done) | omega | (simp only [gl1, gl2]; omega)) only [go_sem, ↓reduceIte, Nat.reduceEqDiff, Nat.reduceAdd, Nat.reduceMul, Nat.reduceSub, Int.reduceToNat, Nat.reduceBEq, s10], by simp (disch := first | (simp only [go_sem, gb0, eq_self]; done) | omega | (simp only [gl1, gl2]; omega)) only [go_sem, ↓reduceIte, Nat.reduceEqDiff, Nat.reduceAdd, Nat.reduceMul, Nat.reduceSub, Int.reduceToNat, Nat.reduceBEq, s4], by simp (disch := first | (simp only [go_sem, gb0, eq_self]; done) | omega | (simp only [gl1, gl2]; omega)) only [go_sem, ↓reduceIte, Nat.reduceEqDiff, Nat.reduceAdd, Nat.reduceMul, Nat.reduceSub, Int.reduceToNat, Nat.reduceBEq, s5], by simp (disch := first | (simp only [go_sem, gb0, eq_self]; done) | omega | (simp only [gl1, gl2]; omega)) only [go_sem, ↓reduceIte, Nat.reduceEqDiff, Nat.reduceAdd, Nat.reduceMul, Nat.reduceSub, Int.reduceToNat, Nat.reduceBEq, s13], by simp (disch := first | (simp only [go_sem, gb0, eq_self]; done) | omega | (simp only [gl1, gl2]; omega)) only [go_sem, ↓reduceIte, Nat.reduceEqDiff, Nat.reduceAdd, Nat.reduceMul, Nat.reduceSub, Int.reduceToNat, Nat.reduceBEq, s6, hcnt'], hnx, by rw [b0, hnil]⟩
  rintro x st h8 ⟨rfl, s1, s2, s9, s10, s5, s6, hbl⟩ w8 c8 a8 E8 H8 S8 F8
  have E48 := (((E5.trans E6).trans E7).trans E8).below
  rw [hbase4] at E48
  have hj8 : J (selL N M k) w8 := hJ _ _ _ hj4 E48
  have hbl8 := hbl4.trans E48
  have hy8 : a8.tmps[0]? = some (.func (.yield l) #[] #[]) := Eq.trans F8 (Eq.trans F7 (Eq.trans F6 (Eq.trans F5 hy4)))
  have hb8 : c8.base = W.heap.size := ((((E5.trans E6).trans E7).trans E8).base).trans hbase4
  clear H4 S4 H5 S5 H6 S6 H7 S7 F5 F6 F7 F8 E5 E6 E7 E8 E48 hj4 hy4 hbl4
  refine wpIn_mono (Q := fun x a' w' => (x = .normal ∧ ∃ ctx h st, HR w' ctx h ∧ SR 37 w' ctx st a' ∧ ctx.base = W.heap.size ∧ st 1 = .pp [I N] ∧ st 2 = .pp [I M] ∧ st 9 = I B ∧ st 10 = I k ∧ J (selL N M (k + 1)) w' ∧ Below W.heap.size W w' ∧ a'.tmps[0]? = some (.func (.yield l) #[] #[])) ∨
      (x = .ret ∧ a'.defers = [] ∧ ∃ pre x, pre ++ [x] <+: selL N M B ∧ Jx (pre ++ [x]) w')) ?_ ?_
  · cases hok : setOk N M k with
    | false =>
      have hne : ¬ ((cardB (bitsL N k) : Nat) : Int) = M := by
        have : ¬ cardB (bitsL N k) = M := of_decide_eq_false hok
        omega
      have hsame : selL N M (k + 1) = selL N M k := by rw [selL_succ, hok]; simp
      refine WP.in_ hext0 hlate0 0 rfl rfl (R := fun x st h' => x = .normal ∧ st 1 = .pp [I N] ∧ st 2 = .pp [I M] ∧ st 9 = I B ∧ st 10 = I k) ?_ H8 S8 ?_
      · simp (disch := first | (simp only [go_sem, gb0, eq_self]; done) | omega | (simp only [gl1, gl2]; omega)) only [go_sem, ↓reduceIte, Nat.reduceEqDiff, Nat.reduceAdd, Nat.reduceMul, Nat.reduceSub, Int.reduceToNat, Nat.reduceBEq, s1, s2, s9, s10, s5, s6, hne]
      rintro x st h9 ⟨rfl, s1, s2, s9, s10⟩ w9 c9 a9 E9 H9 S9 F9
      have hb9 := E9.below
      rw [hb8] at hb9
      exact .inl ⟨rfl, c9, h9, st, H9, S9, E9.base.trans hb8, s1, s2, s9, s10, by rw [hsame]; exact hJ _ _ _ hj8 hb9, hbl8.trans hb9, Eq.trans F9 hy8⟩
    | true =>
      have heq : cardB (bitsL N k) = M := of_decide_eq_true hok
      have hsucc : selL N M (k + 1) = selL N M k ++ [actsA (bitsL N k)] := by rw [selL_succ, hok]; rfl
      have hpre : selL N M k ++ [actsA (bitsL N k)] <+: selL N M B := by rw [← hsucc]; exact selL_pre (by omega)
      refine wpIn_seq (wpIn_region ?_)
      show wpOpsIn (rF none) m Try.prog _ _ ([0, 1, 2, 3] ++ [4, 5, 6, 7, 8]) a8 w8
      refine ops_pre hext0 (n := 37) 0 rfl rfl [0, 1, 2, 3] [4, 5, 6, 7, 8] (R := fun st h' => (st 1 = .pp [I N] ∧ st 2 = .pp [I M] ∧ st 9 = I B ∧ st 10 = I k ∧ st 5 = .ptr id 0) ∧ st 30 = .bool true ∧ h' = h8) ?_ H8 S8 ?_
      · simp only [List.filterMap_cons, List.filterMap_nil, List.getElem?_toArray, List.getElem?_cons_zero, List.getElem?_cons_succ]
        simp (disch := first | (simp only [go_sem, gb0, eq_self]; done) | omega | (simp only [gl1, gl2]; omega)) only [go_sem, ↓reduceIte, Nat.reduceEqDiff, Nat.reduceAdd, Nat.reduceMul, Nat.reduceSub, Int.reduceToNat, Nat.reduceBEq, s1, s2, s9, s10, s5, s6, heq, eq_self, decide_true]
      rintro st h9 ⟨⟨s1, s2, s9, s10, s5⟩, s30, rfl⟩ w9 c9 a9 E9 H9 S9 F9
      have hb9 := E9.below
      rw [hb8] at hb9
      have hbase9 : c9.base = W.heap.size := E9.base.trans hb8
      have hj9 : J (selL N M k) w9 := hJ _ _ _ hj8 hb9
      have hbl9 := hbl8.trans hb9
      have y0 : a9.tmps[0]? = some (.func (.yield l) #[] #[]) := Eq.trans F9 hy8
      have y30 := tmp_bool S9 (t := 30) (by decide) s30
      clear H8 S8 E9 hb9 hj8 hbl8 F9 hy8 hb8
      refine op_value (o := ⟨some 31, .move (.tmp 0), 118, _, _, some (3, true)⟩) rfl (wanted_some rfl (yielded_at rfl y30)) (fun c h => by cases h) (x := a9.eval (.tmp 0)) (w' := w9) rfl ?_
      rw [eval_tmp y0]
      have S10 := S9.put (d := some 31) (fun t ht => by cases ht; decide) (VR.undef (w := w9) (c := c9) (.func (.yield l) #[] #[]))
      have y31 := put_at (v := .func (.yield l) #[] #[]) S9.size (show 31 < 37 by decide)
      have y30' := (put_other' (v := .func (.yield l) #[] #[]) (show 31 ≠ 30 by decide)).trans y30
      have y0' := (put_other' (v := .func (.yield l) #[] #[]) (show 31 ≠ 0 by decide)).trans y0
      generalize a9.put (some 31) (.func (.yield l) #[] #[]) = a10 at *
      have hload : StepW Try.prog cfg #[] none (.load 101 (.tmp 5)) (updO st (some 31) .undef) h9 (fun v g => v = actsA (bitsL N k) ∧ g = h9) := by
        have hld := loadC_agg (.array 8 4) 8 rfl ((pad8 (bitsL N k)).flatMap (e1 .bool)) 0 (by rw [flat_len, pad8_len]; exact Nat.le_refl _)
        have htk : (((pad8 (bitsL N k)).flatMap (e1 AV.bool)).drop 0).take 8 = (pad8 (bitsL N k)).flatMap (e1 AV.bool) := by
          rw [List.drop_zero, List.take_of_length_le (by rw [flat_len, pad8_len]; exact Nat.le_refl _)]
        rw [htk] at hld
        simp (disch := first | (simp only [go_sem, gb0, eq_self]; done) | omega | (simp only [gl1, gl2]; omega)) only [go_sem, ↓reduceIte, Nat.reduceEqDiff, Nat.reduceAdd, Nat.reduceMul, Nat.reduceSub, Int.reduceToNat, Nat.reduceBEq, s5, hbl, hld]
        exact rfl
      obtain ⟨kk, v, g, e, rfl, hg⟩ := hload
      rw [hg] at e
      have hu : opRead Try.prog (.load 101 (.tmp 5)) (ev (updO st (some 31) .undef)) h9 none = some (actsA (bitsL N k)) := by
        unfold stepK at e
        have hp : opPure Try.prog (.load 101 (.tmp 5)) (ev (updO st (some 31) .undef)) = none := rfl
        simp only [hp] at e
        cases hq : opRead Try.prog (.load 101 (.tmp 5)) (ev (updO st (some 31) .undef)) h9 none with
        | some u => rw [hq] at e; simp only [Option.some.injEq, Prod.mk.injEq, and_true] at e; rw [e]
        | none => rw [hq] at e; simp [opNew, opWrite] at e
      obtain ⟨v8, hr8, V8⟩ := opRead_ok (P := Try.prog) (o := ⟨some 32, .load 101 (.tmp 5), 101, "corner.go:35", #[⟨3, .guard⟩], some (3, true)⟩) H9 S10.ev hu
      refine op_value (o := ⟨some 32, .load 101 (.tmp 5), 101, _, _, some (3, true)⟩) rfl (wanted_some rfl (yielded_at rfl y30')) (fun c h => by cases h) hr8 ?_
      have S11 := S10.put (d := some 32) (fun t ht => by cases ht; decide) V8
      have z32 := put_at (v := v8) S10.size (show 32 < 37 by decide)
      have z31 := (put_other' (v := v8) (show 32 ≠ 31 by decide)).trans y31
      have z30 := (put_other' (v := v8) (show 32 ≠ 30 by decide)).trans y30'
      have z0 := (put_other' (v := v8) (show 32 ≠ 0 by decide)).trans y0'
      dsimp only at *
      generalize a10.put (some 32) v8 = a11 at *
      refine op_yield (o := ⟨some 33, .call ⟨.value (.tmp 31), #[.tmp 32], #[101]⟩, 4, _, _, some (3, true)⟩) rfl (wanted_some rfl (yielded_at rfl z30)) rfl (eval_tmp z31) (eval_tmp z32)
        (hY (selL N M k) (actsA (bitsL N k)) v8 w9 hpre hbl9 hj9 (acts_rep V8 _ _ _)) ?_
      rintro e w10 hres
      obtain ⟨b, he, hd⟩ : ∃ b, e = .returned (.bool b) ∧ ((b = true ∧ J (selL N M k ++ [actsA (bitsL N k)]) w10 ∧ Below w9.heap.size w9 w10) ∨ (b = false ∧ Jx (selL N M k ++ [actsA (bitsL N k)]) w10)) := by
        rcases hres with ⟨rfl, h1, h2⟩ | ⟨rfl, h1, _⟩
        · exact ⟨true, rfl, .inl ⟨rfl, h1, h2⟩⟩
        · exact ⟨false, rfl, .inr ⟨rfl, h1⟩⟩
      refine ⟨b, he, ?_⟩
      have u33 := put_at (v := .bool b) S11.size (show 33 < 37 by decide)
      have u30 := (put_other' (v := .bool b) (show 33 ≠ 30 by decide)).trans z30
      have u0 := (put_other' (v := .bool b) (show 33 ≠ 0 by decide)).trans z0
      refine op_value (o := ⟨some 34, .unOp .not 4 (.tmp 33), 4, _, _, some (3, true)⟩) rfl (wanted_some rfl (yielded_at rfl u30)) (fun c h => by cases h) (not_run' (eval_tmp u33)) ?_
      have v34 := put_at (v := .bool (!b)) (put_size (t := 33) (v := .bool b) S11.size) (show 34 < 37 by decide)
      have v30 := (put_other' (v := .bool (!b)) (show 34 ≠ 30 by decide)).trans u30
      have v0 := (put_other' (v := .bool (!b)) (show 34 ≠ 0 by decide)).trans u0
      refine op_value (o := ⟨some 35, .pick (.tmp 30) (.tmp 34) (.const (.bool false)), 4, _, _, none⟩) rfl (wanted_none rfl) (fun c h => by cases h) (pick_run (eval_tmp v30)) ?_
      rw [if_pos rfl, eval_tmp v34]
      have x35 := put_at (v := .bool (!b)) (put_size (t := 34) (v := .bool (!b)) (put_size (t := 33) (v := .bool b) S11.size)) (show 35 < 37 by decide)
      have x0 := (put_other' (v := .bool (!b)) (show 35 ≠ 0 by decide)).trans v0
      show (Code.cond (.tmp 35) .ret .skip).wpIn (rF none) m Try.prog _ _ _
      rcases hd with ⟨rfl, hj10, hB10⟩ | ⟨rfl, hjx⟩
      · refine wpIn_cond_false (eval_tmp x35) (wpIn_skip (.inl ⟨rfl, ?_⟩))
        have E10 := Ext.grow H9 hB10 c9.fz (fun _ h => h) (fun _ h => .inl h)
        have H10 := H9.grow hB10 c9.fz (fun _ h => h) (fun _ h => .inl h)
        have S12 := (((S11.mono E10).put (d := some 33) (fun t ht => by cases ht; decide) (VR.bool (w := w10) true)).put (d := some 34) (fun t ht => by cases ht; decide) (VR.bool (w := w10) false)).put (d := some 35) (fun t ht => by cases ht; decide) (VR.bool (w := w10) false)
        have hb10 : Below W.heap.size w9 w10 := Below.mono' hB10 hbl9.size
        exact ⟨_, h9, _, H10, S12, E10.base.trans hbase9, s1, s2, s9, s10, by rw [hsucc]; exact hj10, hbl9.trans hb10, x0⟩
      · exact wpIn_cond_true (eval_tmp x35) (wpIn_ret (.inr ⟨rfl, S11.defers, _, _, hpre, hjx⟩))
  · rintro x a9 w9 (⟨rfl, c9, h9, st, H9, S9, hb9, s1, s2, s9, s10, hj9, hbl9, hy9⟩ | ⟨rfl, hd, pre, x, hpx, hjx⟩)
    · refine WP.in_ hext0 hlate0 0 rfl rfl (R := fun x st' h' => x = .normal ∧ st' 1 = .pp [I N] ∧ st' 2 = .pp [I M] ∧ st' 9 = I B ∧ st' 10 = I ((k + 1 : Nat) : Int)) ?_ H9 S9 ?_
      · simp (disch := first | (simp only [go_sem, gb0, eq_self]; done) | omega | (simp only [gl1, gl2]; omega)) only [go_sem, ↓reduceIte, Nat.reduceEqDiff, Nat.reduceAdd, Nat.reduceMul, Nat.reduceSub, Int.reduceToNat, Nat.reduceBEq, s1, s2, s9, s10]
        rfl
      rintro x st h10 ⟨rfl, s1, s2, s9, s10⟩ w10 c10 a10 E10 H10 S10 F10
      have hval : a10.tmps.getD 10 Go.undef = .int .i64 ((k + 1 : Nat) : Int) := by
        have := S10.val 10
        rw [s10] at this
        generalize a10.tmps.getD 10 Go.undef = v at this
        cases this; rfl
      have hbb := E10.below
      rw [hb9] at hbb
      refine ⟨⟨c10, h10, st, k + 1, H10, S10, E10.base.trans hb9, s1, s2, s9, s10, by omega, hJ _ _ _ hj9 hbb, hbl9.trans hbb, Eq.trans F10 hy9⟩, ?_⟩
      show B - (intOf (a10.tmps.getD 10 Go.undef)).toNat < B - (intOf (a.tmps.getD 10 Go.undef)).toNat
      rw [hval, hval10]
      simp only [intOf]
      omega
    · exact ⟨hd, _, results_none rfl _ _ _, ⟨_, rfl⟩, .inr ⟨pre, x, hpx, hjx⟩⟩
end Go.Proofs.Ytcdpkgmkckfonaa

set_option linter.unusedVariables false
set_option linter.unusedSimpArgs false
set_option maxRecDepth 10000
namespace Go.Proofs.Ytcdpkgmkckfonaa
open Go Go.Am Go.RowKit

variable {h h' : Hp} {K : AV → Hp → Prop}

theorem run_load1 {P : Program} {ρ : Operand → Value} {w : World} {d : Option Nat} {t u : TypeId} {p : Operand} {pos : String} {es : Array Edge} {g : Option (Nat × Bool)} {ad : Addr} {v : Value} {desc : TypeDesc} (hd : P.underlying t = some desc) (ha : aggD desc = false) (hp : ρ p = .pointer (some ad)) (hc : w.cell? ad = some v) :
    (execOp ρ ⟨d, .load t p, u, pos, es, g⟩).run P w = .ok (.value v) w := by
  simp [execOp, Instr.loadAt, hp, Instr.sureAddr, loadVar, run_isAgg hd, ha, run_load, hc]
theorem run_box1 {P : Program} {ρ : Operand → Value} {w : World} {d : Option Nat} {t u : TypeId} {x : Operand} {pos : String} {es : Array Edge} {g : Option (Nat × Bool)} {v : Value} (hx : ρ x = v) (hv : v.cells = #[v]) :
    (execOp ρ ⟨d, .box t x, u, pos, es, g⟩).run P w = .ok (.value (.pointer (some ⟨w.heap.size, 0, none⟩))) (w.alloc (.cells #[v] t)) := by
  simp [execOp, Instr.box, newVar, newRow, hx, hv]
theorem sealV_ptr {id : Nat} {fz row : Bool} {xs : List AV} (hx : AV.pureL xs = true) (hb : h.bl id = some (.cells fz row xs)) : sealV h (.ptr id 0) = some (.pp xs, h.put id (some (.cells true row xs))) := by
  show sealV0 h (.ptr id 0) = _
  unfold sealV0
  rw [if_neg (by simp [AV.isPure])]
  simp only [hb]
  rw [if_pos ⟨hx, Nat.zero_le _⟩]; rfl
theorem f79_con (x y : Int) : Con Try.prog cfg 79 [I x, I y] (.fn 82 [.pp [I x], .pp [I y]]) := by
  refine Con_intro Try.func79 rfl ok79 (Nat.le_of_ble_eq_true rfl) rfl ?_
  simp only [Try.f79, Option.getD_some, initSt2]
  simp (disch := first | (simp only [go_sem, gb0, eq_self]; done) | omega | (simp only [gl1, gl2]; omega)) only [go_sem, ↓reduceIte, Nat.reduceEqDiff, Nat.reduceAdd, Nat.reduceMul, Nat.reduceSub, Int.reduceToNat, Nat.reduceBEq]
  show ((exportV Try.prog false false 114 ((Hp.empty.alloc (.cells false false [I x])).alloc (.cells false false [I y])) [] (.fn 82 [.ptr 0 0, .ptr 1 0])).bind fun r => if isTup r.1 then none else some r.1) = _
  have s1 := sealV_ptr (h := (Hp.empty.alloc (.cells false false [I x])).alloc (.cells false false [I y])) (id := 0) (fz := false) (row := false) (xs := [I x]) rfl rfl
  have s2 := sealV_ptr (h := ((Hp.empty.alloc (.cells false false [I x])).alloc (.cells false false [I y])).put 0 (some (.cells true false [I x]))) (id := 1) (fz := false) (row := false) (xs := [I y]) rfl rfl
  obtain ⟨G, hs⟩ : ∃ G, sealA ((Hp.empty.alloc (.cells false false [I x])).alloc (.cells false false [I y])) (.fn 82 [.ptr 0 0, .ptr 1 0]) = some (.fn 82 [.pp [I x], .pp [I y]], G) := by
    have hp : (AV.fn 82 [.ptr 0 0, .ptr 1 0]).isPure = false := rfl
    simp only [sealA, hp, sealCells, s1, s2, Option.bind_some, Option.map_some, Bool.false_eq_true, if_false]
    exact ⟨_, rfl⟩
  rw [exportV_plain, hs]; rfl
theorem f68_con (a : List (List Int)) : Con Try.prog cfg 68 [LLI a] (.fn 78 [.pp [LLI a]]) := by
  refine Con_intro Try.func68 rfl ok68 (Nat.le_of_ble_eq_true rfl) rfl ?_
  simp only [Try.f68, Option.getD_some, initSt1]
  simp (disch := first | (simp only [go_sem, gb0, eq_self]; done) | omega | (simp only [gl1, gl2]; omega)) only [go_sem, ↓reduceIte, Nat.reduceEqDiff, Nat.reduceAdd, Nat.reduceMul, Nat.reduceSub, Int.reduceToNat, Nat.reduceBEq]
  have s1 := sealV_ptr (h := Hp.empty.alloc (.cells false false [LLI a])) (id := 0) (fz := false) (row := false) (xs := [LLI a]) (by simp [AV.pureL, pure_L]) rfl
  show ((exportV Try.prog false false 98 (Hp.empty.alloc (.cells false false [LLI a])) [] (.fn 78 [.ptr 0 0])).bind fun r => if isTup r.1 then none else some r.1) = _
  obtain ⟨G, hs⟩ : ∃ G, sealA (Hp.empty.alloc (.cells false false [LLI a])) (.fn 78 [.ptr 0 0]) = some (.fn 78 [.pp [LLI a]], G) := by
    have hp : (AV.fn 78 [.ptr 0 0]).isPure = false := rfl
    simp only [sealA, hp, sealCells, s1, Option.bind_some, Option.map_some, Bool.false_eq_true, if_false]
    exact ⟨_, rfl⟩
  rw [exportV_plain, hs]; rfl
theorem fn_inv2 {g : FuncId} {x y : Int} {w : World} {c : Ctx} {v : Value} (h : VR w c (.fn g [.pp [I x], .pp [I y]]) v) :
    ∃ ad1 ad2, v = .func (.func g) #[] #[.pointer (some ad1), .pointer (some ad2)] ∧ w.cell? ad1 = some (.int .i64 x) ∧ w.cell? ad2 = some (.int .i64 y) ∧ ad1.block < w.heap.size ∧ ad2.block < w.heap.size := by
  generalize hq : ([.pp [I x], .pp [I y]] : List AV) = q at h
  have one : ∀ {z : Int} {u : Value}, VR w c (.pp [I z]) u → ∃ ad, u = .pointer (some ad) ∧ w.cell? ad = some (.int .i64 z) ∧ ad.block < w.heap.size := by
    intro z u hu
    generalize hz : ([I z] : List AV) = l at hu
    cases hu with
    | pp _ ad cv hfz hcell hc hv =>
      subst hz
      have h0 := hc 0 (by simp)
      have h1 := hv 0 _ rfl
      have e0 : ad.add 0 = ad := by unfold Addr.add; simp
      rw [e0] at h0
      have h2 : cv 0 = .int .i64 z := by
        generalize cv 0 = t at h1
        cases h1; rfl
      rw [h2] at h0
      refine ⟨ad, rfl, h0, ?_⟩
      unfold World.cell? at h0
      cases hb : w.heap[ad.block]? with
      | none => rw [hb] at h0; simp at h0
      | some o => exact (Array.getElem?_eq_some_iff.1 hb).1
  cases h with
  | fn _ _ vs hl hv =>
    subst hq
    obtain ⟨ad1, e1, c1, b1⟩ := one (hv 0 _ rfl)
    obtain ⟨ad2, e2, c2, b2⟩ := one (hv 1 _ rfl)
    have hs : vs.size = 2 := hl.symm
    refine ⟨ad1, ad2, ?_, c1, c2, b1, b2⟩
    congr 1
    refine Array.ext (by simp [hs]) fun j h1 h2 => ?_
    have hj : j = 0 ∨ j = 1 := by omega
    rcases hj with rfl | rfl
    · rw [Array.getD_eq_getD_getElem?, Array.getElem?_eq_getElem h1] at e1; exact e1
    · rw [Array.getD_eq_getD_getElem?, Array.getElem?_eq_getElem h1] at e2; exact e2
theorem fn_inv1 {g : FuncId} {x : AV} {w : World} {c : Ctx} {v : Value} (h : VR w c (.fn g [x]) v) : ∃ u, v = .func (.func g) #[] #[u] ∧ VR w c x u := by
  generalize hq : ([x] : List AV) = q at h
  cases h with
  | fn _ _ vs hl hv =>
    subst hq
    have hs : vs.size = 1 := hl.symm
    refine ⟨vs.getD 0 Go.undef, ?_, hv 0 _ rfl⟩
    congr 1
    refine Array.ext (by simp [hs]) fun j h1 h2 => ?_
    have : j = 0 := by omega
    subst this
    show vs[0] = vs.getD 0 Go.undef
    rw [Array.getD_eq_getD_getElem?, Array.getElem?_eq_getElem h1]; rfl
/-- The numbers of the sets, and the corners of the first of them. -/
def setsN (m n : Nat) : List Nat := (List.range (2 ^ (m + n))).filter (setOk (m + n) m)
theorem selL_sets (m n : Nat) : selL (m + n) m (2 ^ (m + n)) = (setsN m n).map fun x => actsA (bitsL (m + n) x) := rfl
def corsK (a : List (List Int)) (m n j : Nat) : List AV := (((setsN m n).take j).filter fun x => okCor a m n (bitsL (m + n) x)).map fun x => corOf a m n (bitsL (m + n) x)
def corsL (a : List (List Int)) (m n : Nat) : List AV := ((setsN m n).filter fun x => okCor a m n (bitsL (m + n) x)).map fun x => corOf a m n (bitsL (m + n) x)
theorem corsK_full (a : List (List Int)) (m n : Nat) {j : Nat} (h : (setsN m n).length ≤ j) : corsK a m n j = corsL a m n := by unfold corsK; rw [List.take_of_length_le h]; rfl
theorem corsK_succ {a : List (List Int)} {m n j x : Nat} (h : (setsN m n)[j]? = some x) : corsK a m n (j + 1) = corsK a m n j ++ (if okCor a m n (bitsL (m + n) x) then [corOf a m n (bitsL (m + n) x)] else []) := by
  unfold corsK
  rw [List.take_add_one, h]
  simp only [Option.toList, List.filter_append, List.map_append]
  congr 1
  by_cases e : okCor a m n (bitsL (m + n) x) = true
  · simp [e]
  · simp [e]
theorem corsK_pre (a : List (List Int)) (m n j : Nat) : corsK a m n j <+: corsL a m n := by
  unfold corsK corsL
  have h := List.take_append_drop j (setsN m n)
  rw [← h]
  conv => rhs; rw [h, ← h, List.filter_append, List.map_append]
  have : List.take j (List.take j (setsN m n) ++ List.drop j (setsN m n)) = List.take j (setsN m n) := by rw [h]
  rw [this]
  exact List.prefix_append _ _
/-- What is handed over is one of the sets. -/
theorem sets_at {m n : Nat} {pre : List AV} {x : AV} (h : pre ++ [x] <+: selL (m + n) m (2 ^ (m + n))) : ∃ y, (setsN m n)[pre.length]? = some y ∧ x = actsA (bitsL (m + n) y) ∧ cardB (bitsL (m + n) y) = m := by
  obtain ⟨r, hr⟩ := h
  rw [selL_sets] at hr
  have h1 : ((setsN m n).map fun x => actsA (bitsL (m + n) x))[pre.length]? = some x := by
    rw [← hr, List.append_assoc, List.getElem?_append_right (Nat.le_refl _)]; simp
  rw [List.getElem?_map] at h1
  cases hy : (setsN m n)[pre.length]? with
  | none => rw [hy] at h1; cases h1
  | some y =>
    rw [hy] at h1
    refine ⟨y, rfl, (Option.some.inj h1).symm, ?_⟩
    have := List.mem_of_getElem? hy
    unfold setsN at this
    exact of_decide_eq_true (List.mem_filter.1 this).2
end Go.Proofs.Ytcdpkgmkckfonaa

set_option linter.unusedVariables false
set_option linter.unusedSimpArgs false
set_option maxRecDepth 10000
namespace Go.Proofs.Ytcdpkgmkckfonaa
open Go Go.Am Go.RowKit

variable {h h' : Hp} {K : AV → Hp → Prop}

theorem enters82 (args : Array Value) (w : World) : (callFunc 82 args).run Try.prog w = .ok (.enter 82 args) w := Go.Proofs.enters_of Try.func82 (by kernel_rfl) rfl args w
theorem enters78 (args : Array Value) (w : World) : (callFunc 78 args).run Try.prog w = .ok (.enter 78 args) w := Go.Proofs.enters_of Try.func78 (by kernel_rfl) rfl args w
theorem store8 (id : Nat) (bs cs : List Bool) (hb : bs.length = 8) (hc : cs.length = 8) : storeC h id 0 8 (some (.cells false false (bs.flatMap (e1 AV.bool)))) (cs.flatMap (e1 AV.bool)) = some (.skp, h.put id (some (.cells false false (cs.flatMap (e1 AV.bool))))) := by
  have h1 : (cs.flatMap (e1 AV.bool)).length = 8 := by rw [flat_len, hc]
  have h2 : (bs.flatMap (e1 AV.bool)).length = 8 := by rw [flat_len, hb]
  rw [storeC_many id 0 8 false _ _ h1 (List.all_eq_true.2 fun y hy => by
    obtain ⟨b, _, hb⟩ := List.mem_flatMap.1 hy
    simp only [e1, List.mem_singleton] at hb
    rw [hb]; rfl) (by omega)]
  have := setL_all (bs.flatMap (e1 AV.bool)) (cs.flatMap (e1 AV.bool)) [] (by omega)
  simp only [List.nil_append, List.length_nil] at this
  rw [this]
theorem ConW_pure {g : FuncId} {args : List AV} {r : AV} (hc : Con Try.prog cfg g args r) (ho : cfg.own g = false) : ConW Try.prog cfg g h (some (args, h)) K = K r h := by
  have hp : r.isPure = true := by
    obtain ⟨k, e⟩ := hc
    exact callP_pure (fun _ _ _ h => by cases h) ho e
  by_cases hs : r.isScalar = true
  · exact ConW_num hc hs
  · have hs' : r.isScalar = false := by simpa using hs
    by_cases hf : r.isFree = true
    · rw [ConW_free hc hs' hf, importR_of_pure hp]
    · rw [ConW_any hc hs' (by simpa using hf), importR_of_pure hp]
theorem below_of {n m : Nat} {A B : World} (h : Below n A B) (hm : m ≤ n) : Below m A B := Below.mono' h hm

theorem corners_seq {a : List (List Int)} {m n : Nat} (T : Tb a m n) (mm : Nat) {w : World} {c : Ctx} {pv : Value} (hv : VR w c (.pp [LLI a]) pv) (hfz : ∀ b, c.fz b → b < w.heap.size) : SeqN Try.prog (mm + 1) 78 #[pv] c.fz (corsL a m n) w := by
  intro l J Jx W hW hJ hX hY h0
  have hm1 := T.m1
  have hm4 := T.m4
  have hn1 := T.n1
  have hn4 := T.n4
  obtain ⟨c0, hc0⟩ : ∃ c' : Ctx, c' = { base := W.heap.size, nx := 0, loc := fun _ => .dead, fz := c.fz } := ⟨_, rfl⟩
  have H0 : HR W c0 Hp.empty := by rw [hc0]; exact ctx_nil fun b hb => Nat.lt_of_lt_of_le (hfz b hb) hW.size
  have V0 : VR W c0 (.pp [LLI a]) pv := by rw [hc0]; exact hv.pure_mono ⟨fun b hb => hb, fun b hb => hW.block b (hfz b hb)⟩ (by show AV.pureL [LLI a] = true; simp only [AV.pureL, Bool.and_true]; exact pure_L _)
  have S0 : SR 30 W c0 (initSt [.undef, .pp [LLI a]]) { tmps := #[.func (.yield l) #[] #[], pv] ++ Array.replicate (30 - 2) Go.undef, defers := [] } := by
    refine args_start (n := 30) ⟨rfl, fun j v hj => ?_⟩ (Nat.le_of_ble_eq_true rfl)
    match j, hj with
    | 0, hj => cases hj; exact .undef _
    | 1, hj => cases hj; exact V0
  have hbase0 : c0.base = W.heap.size := by rw [hc0]
  have hfz0 : c0.fz = c.fz := by rw [hc0]
  refine callsIn_of_wp_marks (fn := Try.f78) (c := Try.f78.body.getD .skip) Try.func78 rfl trivial ?_
  have hntm : Try.f78.ntmps = 30 := rfl
  rw [hntm]
  have hy0 : ({ tmps := #[.func (.yield l) #[] #[], pv] ++ Array.replicate (30 - 2) Go.undef, defers := [] } : Act).tmps[0]? = some (.func (.yield l) #[] #[]) := by simp
  obtain ⟨a0, ha0⟩ : ∃ a0 : Act, { tmps := #[.func (.yield l) #[] #[], pv] ++ Array.replicate (30 - 2) Go.undef, defers := [] } = a0 := ⟨_, rfl⟩
  rw [ha0] at S0 hy0
  have hgo : (Try.f78.body.getD .skip).wpIn (rF none) (mm + 1) Try.prog (bodyPostM (rF none) (mm + 1) Try.prog Try.f78 fun e W' => (∃ v, e = .returned v) ∧ (J (corsL a m n) W' ∨ (∃ pre x, pre ++ [x] <+: corsL a m n ∧ Jx (pre ++ [x]) W'))) a0 W := ?_
  · rw [← ha0] at hgo; exact hgo
  generalize hQ : bodyPostM (rF none) (mm + 1) Try.prog Try.f78 (fun e W' => (∃ v, e = .returned v) ∧ (J (corsL a m n) W' ∨ (∃ pre x, pre ++ [x] <+: corsL a m n ∧ Jx (pre ++ [x]) W'))) = Q
  simp only [Try.f78, Option.getD_some]
  -- the box
  refine wpIn_seq (wpIn_region ?_)
  show wpOpsIn (rF none) (mm + 1) Try.prog _ _ [0] a0 W
  refine op_value (o := ⟨some 2, .box 112 (.tmp 0), 0, _, _, none⟩) rfl (wanted_none rfl) (fun c h => by cases h) (run_box1 (v := .func (.yield l) #[] #[]) (eval_tmp hy0) rfl) ?_
  obtain ⟨B, hB⟩ : ∃ B, B = W.heap.size := ⟨_, rfl⟩
  have hbel : Below W.heap.size W (W.alloc (.cells #[.func (.yield l) #[] #[]] 112)) := (Below.refl _ W).alloc (Nat.le_refl _) _
  have hbox : (W.alloc (.cells #[.func (.yield l) #[] #[]] 112)).heap[B]? = some (.cells #[.func (.yield l) #[] #[]] 112) := by rw [hB]; exact World.alloc_heap_new W _
  have hsz : (W.alloc (.cells #[.func (.yield l) #[] #[]] 112)).heap.size = B + 1 := by rw [hB]; simp
  generalize W.alloc (.cells #[.func (.yield l) #[] #[]] 112) = W1 at *
  have gB : ∀ b, (c0.fz b ∨ b = B) → c0.fz b ∨ (W.heap.size ≤ b ∧ b < W1.heap.size) := fun b hb => by
    rcases hb with hb | rfl
    · exact .inl hb
    · exact .inr ⟨by omega, by omega⟩
  have E1 := Ext.grow H0 hbel (fun b => c0.fz b ∨ b = B) (fun _ h => .inl h) gB
  have H1 := H0.grow hbel (fun b => c0.fz b ∨ b = B) (fun _ h => .inl h) gB
  have S1 := (S0.mono E1).put (d := some 2) (fun t ht => by cases ht; decide) (VR.undef (w := W1) (c := { c0 with fz := fun b => c0.fz b ∨ b = B }) (.pointer (some ⟨W.heap.size, 0, none⟩)))
  have y2 := put_at (v := .pointer (some ⟨W.heap.size, 0, none⟩)) S0.size (show 2 < 30 by decide)
  rw [← hB] at y2 S1
  show Exit.then _ _ .normal _ _
  have t1 : (updO (initSt [.undef, .pp [LLI a]]) (some 2) .undef) 1 = .pp [LLI a] := rfl
  rw [← hB]
  generalize updO (initSt [.undef, .pp [LLI a]]) (some 2) .undef = st at *
  generalize a0.put (some 2) (.pointer (some ⟨B, 0, none⟩)) = a1 at *
  have hla := T.len
  have hl0 := T.row 0 (by omega)
  have hcast : ((m + n : Nat) : Int) = (m : Int) + n := by omega
  have k79 := fun h h' K (x y : Int) => ConW_any (h := h) (h' := h') (K := K) (f79_con x y) rfl
  have hi79 : ∀ (h : Hp) (x y : Int), importR h (.fn 82 [.pp [I x], .pp [I y]]) = (.fn 82 [.pp [I x], .pp [I y]], h) := fun _ _ _ => rfl
  obtain ⟨c1, hc1⟩ : ∃ c1 : Ctx, c1 = { c0 with fz := fun b => c0.fz b ∨ b = B } := ⟨_, rfl⟩
  rw [← hc1] at E1 H1 S1
  have hbase1 : c1.base = W.heap.size := by rw [hc1]; exact hbase0
  have hfz1 : ∀ b, c1.fz b ↔ (c.fz b ∨ b = B) := fun b => by rw [hc1, ← hfz0]
  refine wpIn_seq (WP.in_ hext0 hlate0 2 rfl (by kernel_rfl) (R := fun x st h' => x = .normal ∧ st 1 = .pp [LLI a] ∧ st 15 = .fn 82 [.pp [I ((m + n : Nat) : Int)], .pp [I m]] ∧ h' = Hp.empty) ?_ H1 S1 ?_)
  · rw [hcast]
    simp (disch := first | (simp only [go_sem, gb0, eq_self]; done) | omega | (simp only [gl1, gl2]; omega)) only [go_sem, ↓reduceIte, Nat.reduceEqDiff, Nat.reduceAdd, Nat.reduceMul, Nat.reduceSub, Int.reduceToNat, Nat.reduceBEq, t1, hla, hl0, k79, hi79]
  rintro x st2 h2 ⟨rfl, s1, s15, rfl⟩ w2 c2 a2 E2 H2 S2 F2
  have y2' : a2.tmps[2]? = some (.pointer (some ⟨B, 0, none⟩)) := Eq.trans F2 y2
  have hW2 : Below W.heap.size W w2 := by
    have := E2.below
    rw [hbase1] at this
    exact hbel.trans this
  have hBlt : B < W1.heap.size := by omega
  have hle2 : W.heap.size ≤ w2.heap.size := hW2.size
  have hbox2 : w2.heap[B]? = some (.cells #[.func (.yield l) #[] #[]] 112) := (E2.keep B ((hfz1 B).2 (.inr rfl))).trans hbox
  have hB2 : B < w2.heap.size := (Array.getElem?_eq_some_iff.1 hbox2).1
  have hbase2 : c2.base = W.heap.size := E2.base.trans hbase1
  have hfz2 : ∀ b, c2.fz b → c.fz b ∨ W.heap.size ≤ b := fun b hb => by
    rcases E2.fzb b hb with h | h
    · rcases (hfz1 b).1 h with h | h
      · exact .inl h
      · exact .inr (by omega)
    · rw [hbase1] at h; exact .inr h
  have hfz2' : ∀ b, c.fz b → c2.fz b := fun b hb => E2.fz b ((hfz1 b).2 (.inl hb))
  have hfz2B : c2.fz B := E2.fz B ((hfz1 B).2 (.inr rfl))
  have hj2 : J [] w2 := hJ _ _ _ h0 hW2
  clear E2 E1 H1 S1 H0 S0 hbox y2 F2
  obtain ⟨ad1, ad2, e15, hcl1, hcl2, hb1, hb2⟩ := fn_inv2 (by have := S2.ev (.tmp 15); rwa [show ev st2 (.tmp 15) = st2 15 from rfl, s15] at this)
  refine wpIn_block ?_
  refine range_lawN (m := mm) e15 enters82 (sets_seq (m + n) m (by omega) (by omega) mm ad1 ad2 w2 hb1 hb2 hcl1 hcl2 c.fz)
    (fun pre W' => J (corsK a m n pre.length) W') (fun cd pre W' => cd = .ret ∧ ∃ p x, p ++ [x] <+: corsL a m n ∧ Jx (p ++ [x]) W')
    (fun s A B h hb => hJ _ _ _ h (below_of hb hle2)) hj2
    (fun cd s A o o' k hk ho l1 l2 h => ⟨h.1, by
      obtain ⟨p, x, h1, h2⟩ := h.2
      exact ⟨p, x, h1, hX _ _ _ _ _ (by omega) ho l1 l2 h2⟩⟩) ?round ?done ?stop
  case done =>
    intro D W' hφ hB' hD hK
    rw [selL_sets, List.length_map] at hφ
    rw [corsK_full a m n (Nat.le_refl _)] at hφ
    show Q .normal _ W'
    rw [← hQ]
    have hd : a2.defers = [] := S2.defers
    refine ⟨by simp, .inl ⟨_, _, rfl, run_takeDeferred hK, ?_⟩⟩
    rw [hd]
    exact ⟨_, results_none rfl _ _ _, ⟨_, rfl⟩, .inl (hJ _ _ _ hφ (below_turn (by omega)))⟩
  case stop =>
    intro D cd pre x W' hpx hψ hD hK
    obtain ⟨rfl, p, y, h1, h2⟩ := hψ
    refine wpIn_ret ?_
    show Q .ret _ W'
    rw [← hQ]
    have hd : a2.defers = [] := S2.defers
    refine ⟨by simp, .inl ⟨_, _, rfl, run_takeDeferred hK, ?_⟩⟩
    rw [hd]
    exact ⟨_, results_none rfl _ _ _, ⟨_, rfl⟩, .inr ⟨p, y, h1, hX _ _ _ _ _ (by omega) hK trivial trivial h2⟩⟩
  case round =>
    intro l' pre x v W' r hpx hBW hφ hrep hl hle
    obtain ⟨y, hy1, rfl, hcard⟩ := sets_at hpx
    obtain ⟨s, hs⟩ : ∃ s, s = bitsL (m + n) y := ⟨_, rfl⟩
    rw [← hs] at hcard hrep hpx
    rw [← hs]
    have hslen : s.length = m + n := by rw [hs, bitsL_len]
    obtain ⟨r0, hcon, ⟨cs, hcs, hcl10, hca⟩, hcor⟩ := f80_con T hslen hcard
    have hplen : (pre ++ [actsA s]).length = pre.length + 1 := by simp
    have hsuc := corsK_succ (a := a) hy1
    rw [← hs] at hsuc
    have Hv := view_start H2 hBW
    have Sv := viewSt_ok H2 hBW S2
    have Vx : VR W' (viewC c2 W') (actsA s) v := bools_any (hrep { c2 with fz := fun _ => True } (fun _ _ => trivial) (fun _ _ _ => trivial)) _ _
    have Sp := Sv.put (d := some 16) (fun t ht => by cases ht; decide) Vx
    have hact : ({ tmps := a2.tmps.setIfInBounds 16 v, defers := [] } : Act) = a2.put (some 16) v := by
      have : a2.defers = [] := S2.defers
      simp [Act.put, this]
    rw [hact]
    have q1 : (updO (viewSt Hp.empty st2) (some 16) (actsA s)) 1 = .pp [LLI a] := by
      show viewV Hp.empty (st2 1) = _
      rw [s1]
      have : (AV.pp [LLI a]).isPure = true := by show AV.pureL [LLI a] = true; simp only [AV.pureL, Bool.and_true]; exact pure_L _
      simp only [viewV, this, if_true]
    have q16 : (updO (viewSt Hp.empty st2) (some 16) (actsA s)) 16 = actsA s := rfl
    have yv := (put_other' (a := a2) (v := v) (show 16 ≠ 2 by decide)).trans y2'
    generalize updO (viewSt Hp.empty st2) (some 16) (actsA s) = sv at *
    generalize a2.put (some 16) v = av at *
    have hlW : l' < W'.heap.size := (Array.getElem?_eq_some_iff.1 hl).1
    have hbv : (viewC c2 W').base = W'.heap.size := rfl
    have hfv : ∀ b, (viewC c2 W').fz b → c.fz b ∨ W.heap.size ≤ b := fun b hb => by
      rcases hb with hb | ⟨id, r, hloc⟩
      · exact hfz2 b hb
      · obtain ⟨_, _, _, h1, _, _⟩ := H2.at hloc
        rw [hbase2] at h1; exact .inr h1
    refine WP.in_ hext0 hlate0 2 rfl rfl (R := fun x st h' => x = .normal ∧ st 1 = .pp [LLI a] ∧ st 3 = .ptr 0 0 ∧ h'.nx = 1 ∧ h'.bl 0 = some (.cells false false ((pad8 s).flatMap (e1 AV.bool)))) ?_ Hv Sp ?_
    · have h8 : ∀ g : Hp, storeC g 0 0 8 (some (.cells false false [.bool false, .bool false, .bool false, .bool false, .bool false, .bool false, .bool false, .bool false])) (actsA s).cells = some (.skp, g.put 0 (some (.cells false false ((pad8 s).flatMap (e1 AV.bool))))) := fun g =>
        store8 (h := g) 0 (List.replicate 8 false) (pad8 s) rfl (pad8_len s)
      simp (disch := first | (simp only [go_sem, gb0, eq_self]; done) | omega | (simp only [gl1, gl2]; omega)) only [go_sem, ↓reduceIte, Nat.reduceEqDiff, Nat.reduceAdd, Nat.reduceMul, Nat.reduceSub, Int.reduceToNat, Nat.reduceBEq, q1, q16, h8]
    rintro x st3 h3 ⟨rfl, s1, s3, hnx, b0⟩ W3 c3 a3 E3 H3 S3 F3
    have hb3 := E3.below
    rw [hbv] at hb3
    refine ⟨fun k _ hk2 => hb3.block k hk2, fun r' => ?_⟩
    have hl3 : W3.heap[l']? = some (.loop r) := (hb3.block l' hlW).trans hl
    have hl3' := (Array.getElem?_eq_some_iff.1 hl3).1
    have H4 := H3.turn (o' := .loop r') hl3 trivial trivial
    have S4 := S3.turn (o' := .loop r') hl3 trivial trivial
    have hlo : (W3.putObj l' (.loop r')).heap[l']? = some (.loop r') := World.putObj_heap_same hl3'
    have hb34 : ∀ k, k < W'.heap.size → k ≠ l' → (W3.putObj l' (.loop r')).heap[k]? = W'.heap[k]? := fun k hk hne => (World.putObj_heap_other hne).trans (hb3.block k hk)
    have hW4 : Below W.heap.size W' (W3.putObj l' (.loop r')) := (below_of hb3 (by have := hBW.size; omega)).trans (below_turn (by omega))
    have hsz4 : W'.heap.size ≤ (W3.putObj l' (.loop r')).heap.size := by simp only [World.putObj, Array.size_setIfInBounds]; exact hb3.size
    have hbase3 : c3.base = W'.heap.size := E3.base
    have hfz3 : ∀ b, c3.fz b → c.fz b ∨ W.heap.size ≤ b := fun b hb => by
      rcases E3.fzb b hb with h | h
      · exact hfv b h
      · rw [hbv] at h; exact .inr (by have := hBW.size; omega)
    have yv3 := Eq.trans F3 yv
    have hBW3 : Below W'.heap.size W' W3 := hb3
    clear E3 H3 S3 F3 Hv Sp Sv Vx yv hb3
    obtain ⟨W4, hW4e⟩ : ∃ W4, W4 = W3.putObj l' (.loop r') := ⟨_, rfl⟩
    rw [← hW4e] at H4 S4 hlo hb34 hW4 hsz4 ⊢
    refine wpIn_block ?_
    have k80 := fun h K => ConW_pure (h := h) (K := K) hcon rfl
    have hl10 := ld10
    simp only [und103] at hl10
    have hl10c := hl10 cs hcl10
    have hst10 : ∀ g : Hp, storeC g 1 0 10 (some (.cells false false (zc 0))) cs = some (.skp, g.put 1 (some (.cells false false cs))) := fun g => store10 1 _ _ rfl hcl10 hca
    have hal4 : ∀ g : Hp, allocB g (izero Try.prog 103) = some (.ptr g.nx 0, g.alloc (.cells false false (zc 0))) := fun g => by
      rw [show izero Try.prog 103 = some (.agg (zc 0)) by kernel_rfl]; exact allocB_agg _ rfl
    simp only [izero103] at hal4
    have hld8 : loadC (some (.array 8 4)) (some 8) (some ((pad8 s).flatMap (e1 AV.bool), 0)) = some (actsA s) := by
      have hld := loadC_agg (.array 8 4) 8 rfl ((pad8 s).flatMap (e1 .bool)) 0 (by rw [flat_len, pad8_len]; exact Nat.le_refl _)
      have htk : (((pad8 s).flatMap (e1 AV.bool)).drop 0).take 8 = (pad8 s).flatMap (e1 AV.bool) := by
        rw [List.drop_zero, List.take_of_length_le (by rw [flat_len, pad8_len]; exact Nat.le_refl _)]
      rw [htk] at hld; exact hld
    have zsa : ∀ g : Hp, sealA g (actsA s) = some (actsA s, g) := fun g => sealA_agg _ (pureL_all fun x hx => by
      obtain ⟨b, _, hb⟩ := List.mem_flatMap.1 hx
      simp only [e1, List.mem_singleton] at hb
      rw [hb]; rfl)
    subst hcs
    refine wpIn_seq (WP.in_ hext0 hlate0 2 rfl rfl (R := fun x st h' => x = .normal ∧ st 5 = .bool (okCor a m n s) ∧ st 4 = .ptr 1 0 ∧ h'.bl 1 = some (.cells false false cs)) ?_ H4 S4 ?_)
    · simp (disch := first | (simp only [go_sem, gb0, eq_self]; done) | omega | (simp only [gl1, gl2]; omega)) only [go_sem, ↓reduceIte, Nat.reduceEqDiff, Nat.reduceAdd, Nat.reduceMul, Nat.reduceSub, Int.reduceToNat, Nat.reduceBEq, s1, s3, hnx, b0, hld8, zsa, k80, hal4, hst10]
    rintro x st5 h5 ⟨rfl, s5, s4, b1⟩ W5 c5 a5 E5 H5 S5 F5
    have hb5 := E5.below
    rw [hbase3] at hb5
    have yv5 := Eq.trans F5 yv3
    have hbase5 : c5.base = W'.heap.size := E5.base.trans hbase3
    have hfz5 : ∀ b, c5.fz b → c.fz b ∨ W.heap.size ≤ b := fun b hb => by
      rcases E5.fzb b hb with h | h
      · exact hfz3 b h
      · rw [hbase3] at h; exact .inr (by have := hBW.size; omega)
    clear E5 F5 H4 S4 yv3
    have hsz' := hBW.size
    cases hok : okCor a m n s with
    | false =>
      rw [hok] at s5 hsuc
      refine WP.in_ hext0 hlate0 2 rfl rfl (R := fun x st h' => x = .normal) ?_ H5 S5 ?_
      · simp (disch := first | (simp only [go_sem, gb0, eq_self]; done) | omega | (simp only [gl1, gl2]; omega)) only [go_sem, ↓reduceIte, Nat.reduceEqDiff, Nat.reduceAdd, Nat.reduceMul, Nat.reduceSub, Int.reduceToNat, Nat.reduceBEq, s5]
      rintro x st6 h6 rfl W6 c6 a6 E6 H6 S6 F6
      have hb6 := E6.below
      rw [hbase5] at hb6
      have hf : Below W'.heap.size W4 W6 := hb5.trans hb6
      refine ⟨hBW3, by rw [← hW4e]; exact hf, ?_⟩
      show J (corsK a m n (pre ++ [actsA s]).length) W6
      rw [hplen, hsuc]
      simp only [Bool.false_eq_true, if_false, List.append_nil]
      exact hJ _ _ _ hφ (hW4.trans (below_of hf (by omega)))
    | true =>
      rw [hok] at s5 hsuc
      have hcr := hcor hok
      rw [if_pos rfl] at hsuc
      rw [← hcr] at hsuc
      have hpre : corsK a m n pre.length ++ [.agg cs] <+: corsL a m n := by rw [← hsuc]; exact corsK_pre _ _ _ _
      refine wpIn_seq (wpIn_region ?_)
      show wpOpsIn (rF (some l')) mm Try.prog _ _ ([0, 1] ++ [2, 3, 4, 5, 6]) a5 W5
      refine ops_pre hext0 (n := 30) 2 rfl rfl [0, 1] [2, 3, 4, 5, 6] (R := fun st h' => st 24 = .bool true ∧ st 4 = .ptr 1 0 ∧ h' = h5) ?_ H5 S5 ?_
      · simp only [List.filterMap_cons, List.filterMap_nil, List.getElem?_toArray, List.getElem?_cons_zero, List.getElem?_cons_succ]
        simp (disch := first | (simp only [go_sem, gb0, eq_self]; done) | omega | (simp only [gl1, gl2]; omega)) only [go_sem, ↓reduceIte, Nat.reduceEqDiff, Nat.reduceAdd, Nat.reduceMul, Nat.reduceSub, Int.reduceToNat, Nat.reduceBEq, s5, s4]
      rintro st9 h9 ⟨s24, s4, rfl⟩ w9 c9 a9 E9 H9 S9 F9
      have hb9 := E9.below
      rw [hbase5] at hb9
      have hf9 : Below W'.heap.size W4 w9 := hb5.trans hb9
      have hfz9 : ∀ b, c9.fz b → c.fz b ∨ W.heap.size ≤ b := fun b hb => by
        rcases E9.fzb b hb with h | h
        · exact hfz5 b h
        · rw [hbase5] at h; exact .inr (by omega)
      have y2 : a9.tmps[2]? = some (.pointer (some ⟨B, 0, none⟩)) := Eq.trans F9 yv5
      have y24 := tmp_bool S9 (t := 24) (by decide) s24
      have hBW9 : Below W.heap.size W' w9 := hW4.trans (below_of hf9 (by omega))
      have hbl9 : Below W.heap.size W w9 := hW2.trans ((below_of hBW hle2).trans hBW9)
      have hbx : w9.heap[B]? = some (.cells #[.func (.yield l) #[] #[]] 112) := by
        rw [hf9.block B (by omega), hb34 B (by omega) (by omega), hBW.block B (by omega)]; exact hbox2
      have hcell : w9.cell? ⟨B, 0, none⟩ = some (.func (.yield l) #[] #[]) := by
        simp [World.cell?, hbx]
      have hb9' : c9.base = W'.heap.size := E9.base.trans hbase5
      clear H5 S5 E9 hb9 F9 yv5
      refine op_value (o := ⟨some 25, .load 112 (.tmp 2), 112, _, _, some (1, true)⟩) rfl (wanted_some rfl (yielded_at rfl y24)) (fun c h => by cases h) (run_load1 und112 rfl (eval_tmp y2) hcell) ?_
      have S10 := S9.put (d := some 25) (fun t ht => by cases ht; decide) (VR.undef (w := w9) (c := c9) (.func (.yield l) #[] #[]))
      have y25 := put_at (v := .func (.yield l) #[] #[]) S9.size (show 25 < 30 by decide)
      have y24' := (put_other' (v := .func (.yield l) #[] #[]) (show 25 ≠ 24 by decide)).trans y24
      generalize a9.put (some 25) (.func (.yield l) #[] #[]) = a10 at *
      have hload : StepW Try.prog cfg #[] none (.load 103 (.tmp 4)) (updO st9 (some 25) .undef) h9 (fun v g => v = .agg cs ∧ g = h9) := by
        simp (disch := first | (simp only [go_sem, gb0, eq_self]; done) | omega | (simp only [gl1, gl2]; omega)) only [go_sem, ↓reduceIte, Nat.reduceEqDiff, Nat.reduceAdd, Nat.reduceMul, Nat.reduceSub, Int.reduceToNat, Nat.reduceBEq, s4, b1, hl10c]
      obtain ⟨kk, v', g, e, rfl, hg⟩ := hload
      rw [hg] at e
      have hu : opRead Try.prog (.load 103 (.tmp 4)) (ev (updO st9 (some 25) .undef)) h9 none = some (.agg cs) := by
        unfold stepK at e
        have hp : opPure Try.prog (.load 103 (.tmp 4)) (ev (updO st9 (some 25) .undef)) = none := rfl
        simp only [hp] at e
        cases hq : opRead Try.prog (.load 103 (.tmp 4)) (ev (updO st9 (some 25) .undef)) h9 none with
        | some u => rw [hq] at e; simp only [Option.some.injEq, Prod.mk.injEq, and_true] at e; rw [e]
        | none => rw [hq] at e; simp [opNew, opWrite] at e
      obtain ⟨v8, hr8, V8⟩ := opRead_ok (P := Try.prog) (o := ⟨some 26, .load 103 (.tmp 4), 103, "corner.go:136", #[⟨1, .guard⟩], some (1, true)⟩) H9 S10.ev hu
      refine op_value (o := ⟨some 26, .load 103 (.tmp 4), 103, _, _, some (1, true)⟩) rfl (wanted_some rfl (yielded_at rfl y24')) (fun c h => by cases h) hr8 ?_
      have S11 := S10.put (d := some 26) (fun t ht => by cases ht; decide) V8
      have z26 := put_at (v := v8) S10.size (show 26 < 30 by decide)
      have z25 := (put_other' (v := v8) (show 26 ≠ 25 by decide)).trans y25
      have z24 := (put_other' (v := v8) (show 26 ≠ 24 by decide)).trans y24'
      dsimp only at *
      generalize a10.put (some 26) v8 = a11 at *
      have hpu : (AV.agg cs).isPure = true := by
        have : (AV.tup [.agg cs, .bool (okCor a m n s)]).isPure = true := by
          obtain ⟨k, e⟩ := hcon
          exact callP_pure (fun _ _ _ h => by cases h) rfl e
        simpa [AV.isPure, AV.pureL] using this
      have hrep' : Rep c.fz W.heap.size w9 (.agg cs) v8 := fun c' hf hn => V8.pure_mono ⟨fun b hb => by
        rcases hfz9 b hb with h | h
        · exact hf b h
        · exact hn b h (H9.fzlt b hb), fun b hb => rfl⟩ hpu
      refine op_yield (o := ⟨some 27, .call ⟨.value (.tmp 25), #[.tmp 26], #[103]⟩, 4, _, _, some (1, true)⟩) rfl (wanted_some rfl (yielded_at rfl z24)) rfl (eval_tmp z25) (eval_tmp z26)
        (hY (corsK a m n pre.length) (.agg cs) v8 w9 hpre hbl9 (hJ _ _ _ hφ hBW9) hrep') ?_
      rintro e w10 hres
      obtain ⟨b, he, hd⟩ : ∃ b, e = .returned (.bool b) ∧ ((b = true ∧ J (corsK a m n pre.length ++ [.agg cs]) w10 ∧ Below w9.heap.size w9 w10) ∨ (b = false ∧ Jx (corsK a m n pre.length ++ [.agg cs]) w10 ∧ w9.heap.size ≤ w10.heap.size ∧ ∀ k, W.heap.size ≤ k → k < w9.heap.size → w10.heap[k]? = w9.heap[k]?)) := by
        rcases hres with ⟨rfl, h1, h2⟩ | ⟨rfl, h1, h2, h3⟩
        · exact ⟨true, rfl, .inl ⟨rfl, h1, h2⟩⟩
        · exact ⟨false, rfl, .inr ⟨rfl, h1, h2, h3⟩⟩
      refine ⟨b, he, ?_⟩
      have u27 := put_at (v := .bool b) S11.size (show 27 < 30 by decide)
      have u24 := (put_other' (v := .bool b) (show 27 ≠ 24 by decide)).trans z24
      refine op_value (o := ⟨some 28, .unOp .not 4 (.tmp 27), 4, _, _, some (1, true)⟩) rfl (wanted_some rfl (yielded_at rfl u24)) (fun c h => by cases h) (not_run' (eval_tmp u27)) ?_
      have v28 := put_at (v := .bool (!b)) (put_size (t := 27) (v := .bool b) S11.size) (show 28 < 30 by decide)
      have v24 := (put_other' (v := .bool (!b)) (show 28 ≠ 24 by decide)).trans u24
      refine op_value (o := ⟨some 29, .pick (.tmp 24) (.tmp 28) (.const (.bool false)), 4, _, _, none⟩) rfl (wanted_none rfl) (fun c h => by cases h) (pick_run (eval_tmp v24)) ?_
      rw [if_pos rfl, eval_tmp v28]
      have x29 := put_at (v := .bool (!b)) (put_size (t := 28) (v := .bool (!b)) (put_size (t := 27) (v := .bool b) S11.size)) (show 29 < 30 by decide)
      show (Code.cond (.tmp 29) .ret .skip).wpIn (rF (some l')) mm Try.prog _ _ _
      have hszw : W'.heap.size ≤ w9.heap.size := Nat.le_trans hsz4 hf9.size
      rcases hd with ⟨rfl, hj10, hB10⟩ | ⟨rfl, hjx, hs10, hk10⟩
      · refine wpIn_cond_false (eval_tmp x29) (wpIn_skip ⟨hBW3, by rw [← hW4e]; exact hf9.trans (below_of hB10 hszw), ?_⟩)
        show J (corsK a m n (pre ++ [actsA s]).length) w10
        rw [hplen, hsuc]; exact hj10
      · refine wpIn_cond_true (eval_tmp x29) (wpIn_ret ⟨?_, Nat.le_trans hszw hs10, fun k hk1 hk2 hne => ?_, rfl, _, _, hpre, hjx⟩)
        · rw [hk10 l' (by omega) (by omega), hf9.block l' hlW]; exact hlo
        · rw [hk10 k (by omega) (by omega), hf9.block k hk2]; exact hb34 k hk2 hne
end Go.Proofs.Ytcdpkgmkckfonaa

set_option linter.unusedVariables false
set_option linter.unusedSimpArgs false
set_option maxRecDepth 10000
namespace Go.Proofs.Ytcdpkgmkckfonaa
open Go Go.Am Go.RowKit

variable {h h' : Hp} {K : AV → Hp → Prop}

theorem WP.wide {P : Program} {cfg : Cfg} (hext : ExtOk P cfg) {c : Code} {n : Nat} (ho : codeOk cfg n c = true) {st : St} {h : Hp} {R : Exit → St → Hp → Prop} (hw : WP P cfg c st h R) {m : Nat} {w : World} {ctx : Ctx} {a : Act} (H : HR w ctx h) (S : SR n w ctx st a) {Q : Exit → Act → World → Prop}
    (hQ : ∀ x st' h', R x st' h' → ∀ w' c' a', Ext w ctx w' c' → HR w' c' h' → SR n w' c' st' a' → Q x a' w') : c.wpIn (rF none) m P Q a w := by
  obtain ⟨k, x, st', h', e, r⟩ := hw
  exact wpIn_wide.2 (((sound hext k).1 n c _ _ _ _ _ ho e).2 H S (hQ x st' h' r))
def cfgS : Cfg := { cfg with strict := fun a b => a == 1 && b == 10, late := fun a b => if a == 1 && b == 10 then [7] else [], wr := fun _ _ => [] }
@[go_sem] theorem cfgS_deep : cfgS.deep = false := by kernel_rfl
@[go_sem] theorem cfgS_wr (a b : Nat) : cfgS.wr a b = [] := rfl
@[go_sem] theorem cfgS_strict (a b : Nat) : cfgS.strict a b = (a == 1 && b == 10) := rfl
theorem hextS : ExtOk Try.prog cfgS := fun _ _ _ h => by cases h
def shA (xs : List Int) (d : Int) : AV := .agg [LI xs, I d]
theorem corsL_form {a : List (List Int)} {m n : Nat} {u : AV} (h : u ∈ corsL a m n) : ∃ xs d bs, u = corA xs d bs ∧ bs.length = 8 := by
  obtain ⟨s, _, rfl⟩ := List.mem_map.1 h
  exact ⟨_, _, _, rfl, fillR_len _ _ _ _⟩
theorem mem_pre {l : List AV} {pre : List AV} {u : AV} (h : pre ++ [u] <+: l) : u ∈ l := by
  obtain ⟨r, rfl⟩ := h
  simp
theorem find_pre {l : List AV} {p : AV → Bool} {pre : List AV} {u : AV} (h : pre ++ [u] <+: l) (hn : ∀ v ∈ pre, p v = false) (hu : p u = true) : l.find? p = some u := by
  obtain ⟨r, rfl⟩ := h
  rw [List.append_assoc, List.find?_append, List.find?_eq_none.2 fun x hx => by rw [hn x hx]; simp]
  simp [hu]
theorem corA_all (xs : List Int) (d : Int) (bs : List Bool) : (LI xs :: I d :: bs.flatMap (e1 AV.bool)).all AV.isCell = true := by
  rw [List.all_cons, List.all_cons, List.all_eq_true.2 fun y hy => ?_]
  · rfl
  · obtain ⟨b, _, hb⟩ := List.mem_flatMap.1 hy
    simp only [e1, List.mem_singleton] at hb
    rw [hb]; rfl
theorem corA_pure (xs : List Int) (d : Int) (bs : List Bool) : AV.pureL (LI xs :: I d :: bs.flatMap (e1 AV.bool)) = true := by
  have : AV.pureL (bs.flatMap (e1 AV.bool)) = true := pureL_all fun x hx => by
    obtain ⟨b, _, hb⟩ := List.mem_flatMap.1 hx
    simp only [e1, List.mem_singleton] at hb
    rw [hb]; rfl
  have h1 : (LI xs).isPure = true := pure_L _
  have h2 : (I d).isPure = true := rfl
  simp only [AV.pureL, this, h1, h2, Bool.and_true]

/-- What a round that leaves for good leaves, with a block that nobody touches. -/
def LeftS (w : World) (c : Ctx) (D : Nat) (R : Hp → Prop) (W : World) : Prop := ∃ c' h', Ext w c W c' ∧ HR W c' h' ∧ c'.fz D ∧ R h'
theorem LeftS.turn {w W : World} {c : Ctx} {h : Hp} {D : Nat} (H : HR w c h) {R : Hp → Prop} {l : Nat} {o o' : Obj} (hle : w.heap.size ≤ l) (hl : W.heap[l]? = some o) (ho : Loopy o) (ho' : Loopy o') (q : LeftS w c D R W) : LeftS w c D R (W.putObj l o') := by
  obtain ⟨c', h', E, H', hD, r⟩ := q
  exact ⟨c', h', E.turn hl ho ho' (Nat.le_trans H.base hle) (fun b hb e => by have := H.fzlt b hb; omega) (fun b hp e => by have := (H.priv b hp).1; omega), H'.turn hl ho ho', hD, r⟩
/-- What lay there is read alone; what came since is frozen. -/
def viewF (c : Ctx) (n : Nat) (W : World) : Ctx := { base := W.heap.size, nx := 0, loc := fun _ => .dead, fz := fun b => (viewC c W).fz b ∨ (n ≤ b ∧ b < W.heap.size) }
theorem viewF_start {w W : World} {c : Ctx} {h : Hp} (H : HR w c h) (hB : Below w.heap.size w W) (n : Nat) : HR W (viewF c n W) Hp.empty :=
  ctx_nil (w := W) (fz := (viewF c n W).fz) fun b hb => by
    rcases hb with hb | hb
    · exact Nat.lt_of_lt_of_le (viewC_lt H W b hb) hB.size
    · exact hb.2
theorem viewV_pure (h : Hp) (v : AV) : (viewV h v).isPure = true ∨ viewV h v = .undef := by
  cases v
  case ptr id off =>
    simp only [viewV]
    split
    · split
      · rename_i hp; exact .inl (by
          simp only [AV.isPure]
          exact pureL_all fun x hx => by
            obtain ⟨j, hj⟩ := List.getElem?_of_mem (List.mem_of_mem_drop hx)
            exact pureL_get hp hj)
      · exact .inr rfl
    · exact .inr rfl
  all_goals
    simp only [viewV]
    split
    · rename_i hp; exact .inl hp
    · exact .inr rfl
theorem viewF_ok {w W : World} {c : Ctx} {h : Hp} (H : HR w c h) (hB : Below w.heap.size w W) {n k : Nat} {st : St} {a : Act} (S : SR k w c st a) : SR k W (viewF c n W) (viewSt h st) a := by
  have S' := viewSt_ok H hB S
  refine ⟨S'.defers, S'.size, fun i => ?_⟩
  rcases viewV_pure h (st i) with hp | hu
  · exact (S'.val i).pure_mono ⟨fun b hb => .inl hb, fun b hb => rfl⟩ hp
  · show VR W _ (viewV h (st i)) _
    rw [hu]; exact .undef _
/-- The memory of solve when it comes to its loops. -/
structure SolveH (a : List (List Int)) (m n : Nat) (h : Hp) : Prop where
  nx : h.nx = 7
  b0 : h.bl 0 = some (.cells false false [LLI a])
  b1 : h.bl 1 = some (.cells false false [.nil, I 0])
  b2 : h.bl 2 = some (.cells false false [.nil, I 0])
  b3 : h.bl 3 = some (.cells false false [I m])
  b4 : h.bl 4 = some (.cells false false [I n])
  b5 : h.bl 5 = some (.cells false false [.nil, I 0])
  b6 : h.bl 6 = some (.cells false false [.nil, I 0])
structure SolveR (st : St) : Prop where
  s2 : st 2 = .ptr 0 0
  s4 : st 4 = .ptr 1 0
  s5 : st 5 = .ptr 2 0
  s6 : st 6 = .ptr 3 0
  s7 : st 7 = .ptr 4 0
  s8 : st 8 = .ptr 5 0
  s9 : st 9 = .ptr 6 0
end Go.Proofs.Ytcdpkgmkckfonaa
