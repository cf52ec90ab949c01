/-
  LocksMore, walked.
-/
import Derived.Test.YtkjdnnedncomgaaL5AI
set_option linter.unusedVariables false
set_option linter.unusedSimpArgs false
set_option maxRecDepth 10000
namespace Go.Proofs.Ytkjdnnedncomgaa
open Go Go.Am

variable {h h' : Hp} {K : AV → Hp → Prop}

/-- What 'Least' answers for a plan. -/
theorem s18 {a : List (List Int)} (f : Pl a) {d : Nat} (hd : 1 ≤ d ∧ d ≤ 4) : ConW Try.prog cfg 18 h (some ([LLI a, I d], h')) K = K (.tup [I (leastN a d 4 : Nat), I 0]) h := by
  have ht : taskB a d = true := by rw [taskB, isPlan_of f, decide_eq_true (by omega)]; rfl
  rw [k18 a f.okA d, leastM, ht]; rfl
theorem s20 {a : List (List Int)} (f : Pl a) {d c : Nat} (hd : 1 ≤ d ∧ d ≤ 4) (hc : 1 ≤ c ∧ c ≤ 4) : ConW Try.prog cfg 20 h (some ([LLI a, I c, I d], h')) K = K (.tup [LLI (planM a c d), I (if (planF a d c).isSome then 0 else 6)]) h' := by
  have ht : taskB a d = true := by rw [taskB, isPlan_of f, decide_eq_true (by omega)]; rfl
  rw [k20 a f.okA c d, planE, ht, decide_eq_true (by omega)]; rfl
theorem s29 {a : List (List Int)} (f : Pl a) : ConW Try.prog cfg 29 h (some ([LLI a], h')) K = K (.tup [LLI (mrgO a a.length), LI (mrgL a a.length), I 0]) h' := by
  rw [k29 a f.okA, isPlan_of f]; rfl

set_option maxHeartbeats 4000000 in
theorem f9_con (acc : List (List Int)) (o0 o1 o2 : Int) (ha : okM acc) (h0 : ok64 o0) (h1 : ok64 o1) (h2 : ok64 o2) : Con Try.prog cfg 9 [LLI acc, .agg [I o0, I o1, I o2]] (.bool true) := by
  have hpl := tameM_plan acc (most := 6) (by omega)
  have mk1 := fun h h' K => k11 (h := h) (h' := h') (K := K) acc ha 6 (by omega)
  generalize tameM acc 6 = a at hpl mk1
  have f := Pl.of hpl
  have hk := f.keys
  have hlo := f.locks
  have hdb := modI_bounds o0 (n := 4) (by omega)
  have mk2 := fun h h' K => m12 (h := h) (h' := h') (K := K) o0 4 h0 (by omega) (by omega)
  obtain ⟨d, hd⟩ : ∃ d : Nat, 1 + modI o0 4 = (d : Int) := ⟨(1 + modI o0 4).toNat, by omega⟩
  have hd4 : 1 ≤ d ∧ d ≤ 4 := by omega
  have mk3 := fun h h' K => s18 (h := h) (h' := h') (K := K) f hd4
  have mk4 := fun h h' K => s29 (h := h) (h' := h') (K := K) f
  obtain ⟨fm, hm1, hm2⟩ := merge_pl f
  have hsame := least_same f fm hd4 (hm1 d) (hm2 d)
  have mk5 := fun h h' K => s18 (h := h) (h' := h') (K := K) fm hd4
  rw [← hsame] at mk5
  have hml := mrgL_len a a.length
  have hle := least_le (a := a) (d := d) 4
  generalize hn : leastN a d 4 = n at *
  have t0 : ¬ (n : Int) < 0 := by omega
  have t1 : ¬ 4 < (n : Int) := by omega
  refine Con_intro Try.func9 rfl ok9 (Nat.le_of_ble_eq_true rfl) rfl ?_
  simp only [Try.f9, Option.getD_some, initSt2]
  by_cases hn0 : n = 0
  · subst hn0
    have t2 : ¬ (0 : Int) < 0 := by decide
    have t3 : ¬ (4 : Int) < 0 := by decide
    simp (disch := first | (simp only [go_sem, Bool.and_self, eq_self]; done) | omega | (simp only [List.length_cons, List.length_nil]; omega)) only [go_sem, ↓reduceIte, Nat.reduceEqDiff, Nat.reduceAdd, Nat.reduceMul, Nat.reduceSub, Int.reduceToNat, mk1, mk2, hd, mk3, mk4, mk5, hml, t2, t3, Int.natCast_zero, eq_self]
  have hn0' : ¬ (n : Int) = 0 := by omega
  simp (disch := first | (simp only [go_sem, Bool.and_self, eq_self]; done) | omega | (simp only [List.length_cons, List.length_nil]; omega)) only [go_sem, ↓reduceIte, Nat.reduceEqDiff, Nat.reduceAdd, Nat.reduceMul, Nat.reduceSub, Int.reduceToNat, mk1, mk2, hd, mk3, mk4, mk5, hml, t0, t1, hn0', eq_self]
  -- more chambers
  refine WP_cut (fun st h => st 3 = .ptr 0 0 ∧ st 5 = LLI a ∧ st 6 = I d ∧ st 7 = I n ∧ h.nx = 1 ∧ h.bl 0 = some (.cells false false [I o0, I o1, I o2])) ?_ ?_
  · refine WP_for1 14 4 (fun c st h => st 3 = .ptr 0 0 ∧ st 5 = LLI a ∧ st 6 = I d ∧ st 7 = I n ∧ h.nx = 1 ∧ h.bl 0 = some (.cells false false [I o0, I o1, I o2])) (by simp (disch := first | (simp only [go_sem, Bool.and_self, eq_self]; done) | omega | (simp only [List.length_cons, List.length_nil]; omega)) only [go_sem, ↓reduceIte, Nat.reduceEqDiff, Nat.reduceAdd, Nat.reduceMul, Nat.reduceSub, Int.reduceToNat]) ⟨by simp (disch := first | (simp only [go_sem, Bool.and_self, eq_self]; done) | omega | (simp only [List.length_cons, List.length_nil]; omega)) only [go_sem, ↓reduceIte, Nat.reduceEqDiff, Nat.reduceAdd, Nat.reduceMul, Nat.reduceSub, Int.reduceToNat], by simp (disch := first | (simp only [go_sem, Bool.and_self, eq_self]; done) | omega | (simp only [List.length_cons, List.length_nil]; omega)) only [go_sem, ↓reduceIte, Nat.reduceEqDiff, Nat.reduceAdd, Nat.reduceMul, Nat.reduceSub, Int.reduceToNat], by simp (disch := first | (simp only [go_sem, Bool.and_self, eq_self]; done) | omega | (simp only [List.length_cons, List.length_nil]; omega)) only [go_sem, ↓reduceIte, Nat.reduceEqDiff, Nat.reduceAdd, Nat.reduceMul, Nat.reduceSub, Int.reduceToNat], by simp (disch := first | (simp only [go_sem, Bool.and_self, eq_self]; done) | omega | (simp only [List.length_cons, List.length_nil]; omega)) only [go_sem, ↓reduceIte, Nat.reduceEqDiff, Nat.reduceAdd, Nat.reduceMul, Nat.reduceSub, Int.reduceToNat], by simp (disch := first | (simp only [go_sem, Bool.and_self, eq_self]; done) | omega | (simp only [List.length_cons, List.length_nil]; omega)) only [go_sem, ↓reduceIte, Nat.reduceEqDiff, Nat.reduceAdd, Nat.reduceMul, Nat.reduceSub, Int.reduceToNat], by simp (disch := first | (simp only [go_sem, Bool.and_self, eq_self]; done) | omega | (simp only [List.length_cons, List.length_nil]; omega)) only [go_sem, ↓reduceIte, Nat.reduceEqDiff, Nat.reduceAdd, Nat.reduceMul, Nat.reduceSub, Int.reduceToNat]⟩ ?_
    rintro c st h hc s14 ⟨s3, s5, s6, s7, hnx, hb0⟩
    by_cases hlt : (c : Int) + 1 ≤ 4
    case neg =>
      simp (disch := first | (simp only [go_sem, Bool.and_self, eq_self]; done) | omega | (simp only [List.length_cons, List.length_nil]; omega)) only [go_sem, ↓reduceIte, Nat.reduceEqDiff, Nat.reduceAdd, Nat.reduceMul, Nat.reduceSub, Int.reduceToNat, s3, s5, s6, s7, s14, hlt]
      exact ⟨hnx, hb0⟩
    have mk6 : ∀ h h' K, ConW Try.prog cfg 20 h (some ([LLI a, I ((c : Int) + 1), I d], h')) K = K (.tup [LLI (planM a ((c + 1 : Nat) : Int) d), I (if (planF a d (c + 1)).isSome then 0 else 6)]) h' := fun h h' K => s20 (h := h) (h' := h') (K := K) f (c := c + 1) hd4 (by omega)
    have hiff := least_iff f (d := d) (c := c + 1) (by omega)
    rw [hn] at hiff
    have t3 : ¬ (6 : Int) = 0 := by decide
    cases hs : (planF a d (c + 1)).isSome with
    | true =>
      have hcn : (n : Int) ≤ (c : Int) + 1 := by have := hiff.1 hs; omega
      simp (disch := first | (simp only [go_sem, Bool.and_self, eq_self]; done) | omega | (simp only [List.length_cons, List.length_nil]; omega)) only [go_sem, ↓reduceIte, Nat.reduceEqDiff, Nat.reduceAdd, Nat.reduceMul, Nat.reduceSub, Int.reduceToNat, s3, s5, s6, s7, s14, hlt, mk6, hs, hcn, binA_bne, eq_self]
      rw [For1K_normal]
      exact ⟨by omega, by simp (disch := first | (simp only [go_sem, Bool.and_self, eq_self]; done) | omega | (simp only [List.length_cons, List.length_nil]; omega)) only [go_sem, ↓reduceIte, Nat.reduceEqDiff, Nat.reduceAdd, Nat.reduceMul, Nat.reduceSub, Int.reduceToNat, s14], by simp (disch := first | (simp only [go_sem, Bool.and_self, eq_self]; done) | omega | (simp only [List.length_cons, List.length_nil]; omega)) only [go_sem, ↓reduceIte, Nat.reduceEqDiff, Nat.reduceAdd, Nat.reduceMul, Nat.reduceSub, Int.reduceToNat, s3], by simp (disch := first | (simp only [go_sem, Bool.and_self, eq_self]; done) | omega | (simp only [List.length_cons, List.length_nil]; omega)) only [go_sem, ↓reduceIte, Nat.reduceEqDiff, Nat.reduceAdd, Nat.reduceMul, Nat.reduceSub, Int.reduceToNat, s5], by simp (disch := first | (simp only [go_sem, Bool.and_self, eq_self]; done) | omega | (simp only [List.length_cons, List.length_nil]; omega)) only [go_sem, ↓reduceIte, Nat.reduceEqDiff, Nat.reduceAdd, Nat.reduceMul, Nat.reduceSub, Int.reduceToNat, s6], by simp (disch := first | (simp only [go_sem, Bool.and_self, eq_self]; done) | omega | (simp only [List.length_cons, List.length_nil]; omega)) only [go_sem, ↓reduceIte, Nat.reduceEqDiff, Nat.reduceAdd, Nat.reduceMul, Nat.reduceSub, Int.reduceToNat, s7], hnx, hb0⟩
    | false =>
      have hcn : ¬ (n : Int) ≤ (c : Int) + 1 := by
        intro h
        have := hiff.2 ⟨hn0, by omega⟩
        rw [hs] at this; cases this
      simp (disch := first | (simp only [go_sem, Bool.and_self, eq_self]; done) | omega | (simp only [List.length_cons, List.length_nil]; omega)) only [go_sem, ↓reduceIte, Nat.reduceEqDiff, Nat.reduceAdd, Nat.reduceMul, Nat.reduceSub, Int.reduceToNat, s3, s5, s6, s7, s14, hlt, mk6, hs, hcn, t3, binA_bne, eq_self]
      rw [For1K_normal]
      exact ⟨by omega, by simp (disch := first | (simp only [go_sem, Bool.and_self, eq_self]; done) | omega | (simp only [List.length_cons, List.length_nil]; omega)) only [go_sem, ↓reduceIte, Nat.reduceEqDiff, Nat.reduceAdd, Nat.reduceMul, Nat.reduceSub, Int.reduceToNat, s14], by simp (disch := first | (simp only [go_sem, Bool.and_self, eq_self]; done) | omega | (simp only [List.length_cons, List.length_nil]; omega)) only [go_sem, ↓reduceIte, Nat.reduceEqDiff, Nat.reduceAdd, Nat.reduceMul, Nat.reduceSub, Int.reduceToNat, s3], by simp (disch := first | (simp only [go_sem, Bool.and_self, eq_self]; done) | omega | (simp only [List.length_cons, List.length_nil]; omega)) only [go_sem, ↓reduceIte, Nat.reduceEqDiff, Nat.reduceAdd, Nat.reduceMul, Nat.reduceSub, Int.reduceToNat, s5], by simp (disch := first | (simp only [go_sem, Bool.and_self, eq_self]; done) | omega | (simp only [List.length_cons, List.length_nil]; omega)) only [go_sem, ↓reduceIte, Nat.reduceEqDiff, Nat.reduceAdd, Nat.reduceMul, Nat.reduceSub, Int.reduceToNat, s6], by simp (disch := first | (simp only [go_sem, Bool.and_self, eq_self]; done) | omega | (simp only [List.length_cons, List.length_nil]; omega)) only [go_sem, ↓reduceIte, Nat.reduceEqDiff, Nat.reduceAdd, Nat.reduceMul, Nat.reduceSub, Int.reduceToNat, s7], hnx, hb0⟩
  rintro st h ⟨s3, s5, s6, s7, hnx, hb0⟩
  simp (disch := first | (simp only [go_sem, Bool.and_self, eq_self]; done) | omega | (simp only [List.length_cons, List.length_nil]; omega)) only [go_sem, ↓reduceIte, Nat.reduceEqDiff, Nat.reduceAdd, Nat.reduceMul, Nat.reduceSub, Int.reduceToNat, s3, s5, s6, s7]
  -- one depth more
  refine condW_join (fun st g => g = h ∧ st 3 = .ptr 0 0 ∧ st 5 = LLI a ∧ st 6 = I d ∧ st 7 = I n) (fun hdl => ?_) (fun hdl => ?_) ?_
  · have hd5 : 1 ≤ d + 1 ∧ d + 1 ≤ 4 := by omega
    have mk7 : ∀ h h' K, ConW Try.prog cfg 18 h (some ([LLI a, I ((d : Int) + 1)], h')) K = K (.tup [I (leastN a (d + 1) 4 : Nat), I 0]) h := fun h h' K => s18 (h := h) (h' := h') (K := K) f hd5
    obtain ⟨q1, q2⟩ := least_cmp f f hd4 hd5 (fun c g => good_more (by omega) g) (by omega)
    rw [hn] at q2
    generalize leastN a (d + 1) 4 = k at *
    have t2 : ¬ (k : Int) < 1 := by omega
    have t3 : ¬ n < k := by omega
    simp (disch := first | (simp only [go_sem, Bool.and_self, eq_self]; done) | omega | (simp only [List.length_cons, List.length_nil]; omega)) only [go_sem, ↓reduceIte, Nat.reduceEqDiff, Nat.reduceAdd, Nat.reduceMul, Nat.reduceSub, Int.reduceToNat, s3, s5, s6, s7, mk7, t2, t3]
  · simp (disch := first | (simp only [go_sem, Bool.and_self, eq_self]; done) | omega | (simp only [List.length_cons, List.length_nil]; omega)) only [go_sem, ↓reduceIte, Nat.reduceEqDiff, Nat.reduceAdd, Nat.reduceMul, Nat.reduceSub, Int.reduceToNat, s3, s5, s6, s7]
  rintro st g ⟨rfl, s3, s5, s6, s7⟩
  simp (disch := first | (simp only [go_sem, Bool.and_self, eq_self]; done) | omega | (simp only [List.length_cons, List.length_nil]; omega)) only [go_sem, ↓reduceIte, Nat.reduceEqDiff, Nat.reduceAdd, Nat.reduceMul, Nat.reduceSub, Int.reduceToNat, s3, s5, s6, s7]
  -- without a key
  refine condW_join (fun st g' => st 3 = .ptr 0 0 ∧ st 5 = LLI a ∧ st 6 = I d ∧ st 7 = I n ∧ 1 ≤ g'.nx ∧ ∃ fz, g'.bl 0 = some (.cells fz false [I o0, I o1, I o2])) (fun hal => ?_) (fun hal => ?_) ?_
  · have hib := modI_bounds o1 (n := (a.length : Int)) (by omega)
    have mk8 := fun h h' K => m12 (h := h) (h' := h') (K := K) o1 a.length h1 (by omega) (by omega)
    obtain ⟨i, hi⟩ : ∃ i : Nat, modI o1 a.length = (i : Int) := ⟨(modI o1 a.length).toNat, by omega⟩
    have hia : i < a.length := by omega
    obtain ⟨fd, hgd⟩ := dropKey_pl f hia (by omega)
    obtain ⟨q1, q2⟩ := least_cmp f fd hd4 hd4 (hgd d) (by omega)
    rw [hn] at q2
    have mk9 := fun h h' K => s18 (h := h) (h' := h') (K := K) fd hd4
    have htl : (a.take i).length = i := by simp; omega
    have hdl2 : (a.drop (i + 1)).length = a.length - (i + 1) := by simp
    have happ1 := app_nil (P := Try.prog) (h := g) (f := e1 LI) 27 24 .nil (LLI (a.take i)) (a.take i) isz27 ibytes27 izero27 rfl (cellsOf_L _ _) (lenA_L _ _) (by omega) (by omega)
    have ow1 : Own (e1 LI) 1 (g.alloc (.cells false true ((a.take i).flatMap (e1 LI)))) (.sl g.nx 0 (a.take i).length 1) (a.take i) := .inr ⟨g.nx, rfl, by rw [alloc_nx]; omega, by rw [alloc_bl, if_pos rfl]⟩
    have happ2 := app_Own (P := Try.prog) ow1 27 24 .nil (LLI (a.drop (i + 1))) (a.drop (i + 1)) isz27 ibytes27 izero27 rfl (cellsOf_L _ _) (lenA_L _ _) (by omega) (by omega)
    have e3 : a.take i ++ a.drop (i + 1) = dropKey a i := rfl
    have ow2 := Own.app (f := e1 LI) (sz := 1) (g.alloc (.cells false true ((a.take i).flatMap (e1 LI)))) (.sl g.nx 0 (a.take i).length 1) (a.take i ++ a.drop (i + 1))
    have hkeep : (appH (g.alloc (.cells false true ((a.take i).flatMap (e1 LI)))) (.sl g.nx 0 (a.take i).length 1) ((a.take i ++ a.drop (i + 1)).flatMap (e1 LI))).bl 0 = some (.cells false false [I o0, I o1, I o2]) := by
      rw [appH_bl _ _ _ _ (by rw [alloc_nx]; omega) (fun id off n s e => by cases e; omega), alloc_bl, if_neg (by omega)]; exact hb0
    have hnx2 := appH_nx (g.alloc (.cells false true ((a.take i).flatMap (e1 LI)))) (.sl g.nx 0 (a.take i).length 1) ((a.take i ++ a.drop (i + 1)).flatMap (e1 LI))
    generalize hG : appH (g.alloc (.cells false true ((a.take i).flatMap (e1 LI)))) (.sl g.nx 0 (a.take i).length 1) ((a.take i ++ a.drop (i + 1)).flatMap (e1 LI)) = G at *
    generalize hv : appV (g.alloc (.cells false true ((a.take i).flatMap (e1 LI)))) (a.take i ++ a.drop (i + 1)).length 1 = v at *
    obtain ⟨G2, z1, z2, z3⟩ := sealA_Own ow2
    rw [e3] at z1
    generalize leastN (dropKey a i) d 4 = k at *
    have t2 : ¬ (k : Int) < 1 := by omega
    have t3 : ¬ n < k := by omega
    have e4 : ((i : Int) + 1) = ((i + 1 : Nat) : Int) := rfl
    simp (disch := first | (simp only [go_sem, Bool.and_self, eq_self]; done) | omega | (simp only [List.length_cons, List.length_nil]; omega)) only [go_sem, ↓reduceIte, Nat.reduceEqDiff, Nat.reduceAdd, Nat.reduceMul, Nat.reduceSub, Int.reduceToNat, s3, s5, s6, s7, hb0, mk8, hi, happ1, e4, happ2, hG, hv, z1, mk9, t2, t3]
    exact ⟨by rw [hnx2, alloc_nx]; omega, false, hkeep⟩
  · simp (disch := first | (simp only [go_sem, Bool.and_self, eq_self]; done) | omega | (simp only [List.length_cons, List.length_nil]; omega)) only [go_sem, ↓reduceIte, Nat.reduceEqDiff, Nat.reduceAdd, Nat.reduceMul, Nat.reduceSub, Int.reduceToNat, s3, s5, s6, s7]
    exact ⟨by omega, false, hb0⟩
  rintro st g' ⟨s3, s5, s6, s7, hnx, fz, hb0⟩
  simp (disch := first | (simp only [go_sem, Bool.and_self, eq_self]; done) | omega | (simp only [List.length_cons, List.length_nil]; omega)) only [go_sem, ↓reduceIte, Nat.reduceEqDiff, Nat.reduceAdd, Nat.reduceMul, Nat.reduceSub, Int.reduceToNat, s3, s5, s6, s7]
  -- without a lock
  refine condW_join (fun st g' => True) (fun hal => ?_) (fun hal => ?_) ?_
  · have hjb := modI_bounds o2 (n := ((nth a 0).length : Int)) (by omega)
    have mk8 := fun h h' K => m12 (h := h) (h' := h') (K := K) o2 (nth a 0).length h2 (by omega) (by omega)
    obtain ⟨j, hj⟩ : ∃ j : Nat, modI o2 (nth a 0).length = (j : Int) := ⟨(modI o2 (nth a 0).length).toNat, by omega⟩
    have hja : j < (nth a 0).length := by omega
    obtain ⟨fd, hgd⟩ := dropLock_pl f hja (by omega)
    obtain ⟨q1, q2⟩ := least_cmp f fd hd4 hd4 (hgd d) (by omega)
    rw [hn] at q2
    have mk9 := fun h h' K => s18 (h := h) (h' := h') (K := K) fd hd4
    have hlim : ∀ n, 0 < n → lims (some n) 0 = true := fun n hn => by simp [lims, hn]
    have hlim0 := hlim g'.nx (by omega)
    simp (disch := first | (simp only [go_sem, Bool.and_self, eq_self]; done) | omega | (simp only [List.length_cons, List.length_nil]; omega)) only [go_sem, ↓reduceIte, Nat.reduceEqDiff, Nat.reduceAdd, Nat.reduceMul, Nat.reduceSub, Int.reduceToNat, s3, s5, s6, s7, hb0, hlim0, mk8, hj]
    refine WP_cut (fun st h => st 5 = LLI a ∧ st 6 = I d ∧ st 7 = I n ∧ st 23 = I j ∧ ∃ v, st 24 = v ∧ Own (e1 LI) 1 h v (dropLock a j)) ?_ ?_
    · refine WP_for 25 a.length (fun i st h => st 5 = LLI a ∧ st 6 = I d ∧ st 7 = I n ∧ st 23 = I j ∧ ∃ v, st 24 = v ∧ Own (e1 LI) 1 h v ((List.range i).map fun i => (nth a i).take j ++ (nth a i).drop (j + 1))) (by simp (disch := first | (simp only [go_sem, Bool.and_self, eq_self]; done) | omega | (simp only [List.length_cons, List.length_nil]; omega)) only [go_sem, ↓reduceIte, Nat.reduceEqDiff, Nat.reduceAdd, Nat.reduceMul, Nat.reduceSub, Int.reduceToNat]) ⟨by simp (disch := first | (simp only [go_sem, Bool.and_self, eq_self]; done) | omega | (simp only [List.length_cons, List.length_nil]; omega)) only [go_sem, ↓reduceIte, Nat.reduceEqDiff, Nat.reduceAdd, Nat.reduceMul, Nat.reduceSub, Int.reduceToNat, s3, s5, s6, s7], by simp (disch := first | (simp only [go_sem, Bool.and_self, eq_self]; done) | omega | (simp only [List.length_cons, List.length_nil]; omega)) only [go_sem, ↓reduceIte, Nat.reduceEqDiff, Nat.reduceAdd, Nat.reduceMul, Nat.reduceSub, Int.reduceToNat, s3, s5, s6, s7], by simp (disch := first | (simp only [go_sem, Bool.and_self, eq_self]; done) | omega | (simp only [List.length_cons, List.length_nil]; omega)) only [go_sem, ↓reduceIte, Nat.reduceEqDiff, Nat.reduceAdd, Nat.reduceMul, Nat.reduceSub, Int.reduceToNat, s3, s5, s6, s7], by simp (disch := first | (simp only [go_sem, Bool.and_self, eq_self]; done) | omega | (simp only [List.length_cons, List.length_nil]; omega)) only [go_sem, ↓reduceIte, Nat.reduceEqDiff, Nat.reduceAdd, Nat.reduceMul, Nat.reduceSub, Int.reduceToNat, s3, s5, s6, s7], .nil, by simp (disch := first | (simp only [go_sem, Bool.and_self, eq_self]; done) | omega | (simp only [List.length_cons, List.length_nil]; omega)) only [go_sem, ↓reduceIte, Nat.reduceEqDiff, Nat.reduceAdd, Nat.reduceMul, Nat.reduceSub, Int.reduceToNat], .inl ⟨rfl, rfl⟩⟩ ?_
      rintro i st h hi s25 ⟨s5, s6, s7, s23, v, s24, how⟩
      by_cases hia : i < a.length
      case neg =>
        have hie : i = a.length := by omega
        simp (disch := first | (simp only [go_sem, Bool.and_self, eq_self]; done) | omega | (simp only [List.length_cons, List.length_nil]; omega)) only [go_sem, ↓reduceIte, Nat.reduceEqDiff, Nat.reduceAdd, Nat.reduceMul, Nat.reduceSub, Int.reduceToNat, s5, s6, s7, s23, s24, s25, hia]
        rw [hie] at how
        exact ⟨_, rfl, how⟩
      have hrow := f.row i hia
      have htl : ((nth a i).take j).length = j := by simp; omega
      have hdl2 : ((nth a i).drop (j + 1)).length = (nth a i).length - (j + 1) := by simp
      have happ1 := app_nil (P := Try.prog) (h := h) (f := e1 I) 3 8 (I 0) (LI ((nth a i).take j)) ((nth a i).take j) isz3 ibytes3 izero3 rfl (cellsOf_L _ _) (lenA_L _ _) (by omega) (by omega)
      have ow1 : Own (e1 I) 1 (h.alloc (.cells false true (((nth a i).take j).flatMap (e1 I)))) (.sl h.nx 0 ((nth a i).take j).length 1) ((nth a i).take j) := .inr ⟨h.nx, rfl, by rw [alloc_nx]; omega, by rw [alloc_bl, if_pos rfl]⟩
      have happ2 := app_Own (P := Try.prog) ow1 3 8 (I 0) (LI ((nth a i).drop (j + 1))) ((nth a i).drop (j + 1)) isz3 ibytes3 izero3 rfl (cellsOf_L _ _) (lenA_L _ _) (by omega) (by omega)
      have ow2 := Own.app (f := e1 I) (sz := 1) (h.alloc (.cells false true (((nth a i).take j).flatMap (e1 I)))) (.sl h.nx 0 ((nth a i).take j).length 1) ((nth a i).take j ++ (nth a i).drop (j + 1))
      have how2 : Own (e1 LI) 1 (h.alloc (.cells false true (((nth a i).take j).flatMap (e1 I)))) v ((List.range i).map fun i => (nth a i).take j ++ (nth a i).drop (j + 1)) := how.mono (by rw [alloc_nx]; omega) fun id hid => by rw [alloc_bl, if_neg (by omega)]
      have hdis : Dis (.sl h.nx 0 ((nth a i).take j).length 1) v := by
        intro id off m s id' off' n' s' q1 q2
        cases q1
        rcases how with ⟨rfl, _⟩ | ⟨x, q, hx, _⟩
        · cases q2
        · rw [q] at q2; cases q2; omega
      have how3 := how2.keep hdis (((nth a i).take j ++ (nth a i).drop (j + 1)).flatMap (e1 I))
      have hdis2 := how2.dis ((nth a i).take j ++ (nth a i).drop (j + 1)).length 1
      generalize hG : appH (h.alloc (.cells false true (((nth a i).take j).flatMap (e1 I)))) (.sl h.nx 0 ((nth a i).take j).length 1) (((nth a i).take j ++ (nth a i).drop (j + 1)).flatMap (e1 I)) = G at *
      generalize hv : appV (h.alloc (.cells false true (((nth a i).take j).flatMap (e1 I)))) ((nth a i).take j ++ (nth a i).drop (j + 1)).length 1 = u at *
      obtain ⟨G2, z1, z2, z3⟩ := sealA_Own ow2
      have how4 : Own (e1 LI) 1 G2 v ((List.range i).map fun i => (nth a i).take j ++ (nth a i).drop (j + 1)) := by
        rcases how3 with o | ⟨id, w1, w2, w3⟩
        · exact .inl o
        · exact .inr ⟨id, w1, by omega, by rw [z3 id (fun id' off n s e => (hdis2 _ _ _ _ _ _ _ _ e w1).symm)]; exact w3⟩
      have hbs := bsB_one (P := Try.prog) 27 u (LI ((nth a i).take j ++ (nth a i).drop (j + 1))) .nil G2 isz27 izero27 rfl rfl rfl z1 rfl rfl (pure_L _)
      have happ3 := app_one (P := Try.prog) how4 27 24 .nil ((nth a i).take j ++ (nth a i).drop (j + 1)) isz27 ibytes27 izero27 rfl (by simp; omega) (by simp; omega)
      have e4 : ((j : Int) + 1) = ((j + 1 : Nat) : Int) := rfl
      have hjl : j ≤ (nth a i).length := by omega
      have hjl2 : j + 1 ≤ (nth a i).length := by omega
      simp (disch := first | (simp only [go_sem, Bool.and_self, eq_self]; done) | omega | (simp only [List.length_cons, List.length_nil]; omega)) only [go_sem, ↓reduceIte, Nat.reduceEqDiff, Nat.reduceAdd, Nat.reduceMul, Nat.reduceSub, Int.reduceToNat, s5, s6, s7, s23, s24, s25, hia, hjl, hjl2, happ1, e4, happ2, hG, hv, hbs, happ3]
      rw [ForK_normal]
      refine ⟨hia, by simp (disch := first | (simp only [go_sem, Bool.and_self, eq_self]; done) | omega | (simp only [List.length_cons, List.length_nil]; omega)) only [go_sem, ↓reduceIte, Nat.reduceEqDiff, Nat.reduceAdd, Nat.reduceMul, Nat.reduceSub, Int.reduceToNat, s25], by simp (disch := first | (simp only [go_sem, Bool.and_self, eq_self]; done) | omega | (simp only [List.length_cons, List.length_nil]; omega)) only [go_sem, ↓reduceIte, Nat.reduceEqDiff, Nat.reduceAdd, Nat.reduceMul, Nat.reduceSub, Int.reduceToNat, s5], by simp (disch := first | (simp only [go_sem, Bool.and_self, eq_self]; done) | omega | (simp only [List.length_cons, List.length_nil]; omega)) only [go_sem, ↓reduceIte, Nat.reduceEqDiff, Nat.reduceAdd, Nat.reduceMul, Nat.reduceSub, Int.reduceToNat, s6], by simp (disch := first | (simp only [go_sem, Bool.and_self, eq_self]; done) | omega | (simp only [List.length_cons, List.length_nil]; omega)) only [go_sem, ↓reduceIte, Nat.reduceEqDiff, Nat.reduceAdd, Nat.reduceMul, Nat.reduceSub, Int.reduceToNat, s7], by simp (disch := first | (simp only [go_sem, Bool.and_self, eq_self]; done) | omega | (simp only [List.length_cons, List.length_nil]; omega)) only [go_sem, ↓reduceIte, Nat.reduceEqDiff, Nat.reduceAdd, Nat.reduceMul, Nat.reduceSub, Int.reduceToNat, s23], _, by simp (disch := first | (simp only [go_sem, Bool.and_self, eq_self]; done) | omega | (simp only [List.length_cons, List.length_nil]; omega)) only [go_sem, ↓reduceIte, Nat.reduceEqDiff, Nat.reduceAdd, Nat.reduceMul, Nat.reduceSub, Int.reduceToNat]; rfl, ?_⟩
      rw [← rows_snoc fun i => (nth a i).take j ++ (nth a i).drop (j + 1)]
      exact Own.app _ _ _
    rintro st h ⟨s5, s6, s7, s23, v, s24, how⟩
    obtain ⟨h2', z1, _⟩ := sealA_Own how
    generalize leastN (dropLock a j) d 4 = k at *
    have t2 : ¬ (k : Int) < 1 := by omega
    have t3 : ¬ n < k := by omega
    simp (disch := first | (simp only [go_sem, Bool.and_self, eq_self]; done) | omega | (simp only [List.length_cons, List.length_nil]; omega)) only [go_sem, ↓reduceIte, Nat.reduceEqDiff, Nat.reduceAdd, Nat.reduceMul, Nat.reduceSub, Int.reduceToNat, s5, s6, s7, s23, s24, z1, mk9, t2, t3]
  · simp (disch := first | (simp only [go_sem, Bool.and_self, eq_self]; done) | omega | (simp only [List.length_cons, List.length_nil]; omega)) only [go_sem, ↓reduceIte, Nat.reduceEqDiff, Nat.reduceAdd, Nat.reduceMul, Nat.reduceSub, Int.reduceToNat]
  rintro st h _
  simp (disch := first | (simp only [go_sem, Bool.and_self, eq_self]; done) | omega | (simp only [List.length_cons, List.length_nil]; omega)) only [go_sem, ↓reduceIte, Nat.reduceEqDiff, Nat.reduceAdd, Nat.reduceMul, Nat.reduceSub, Int.reduceToNat]
end Go.Proofs.Ytkjdnnedncomgaa
