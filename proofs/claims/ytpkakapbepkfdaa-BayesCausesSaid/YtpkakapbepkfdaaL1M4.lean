/-
  The reference's Descendant.
  A variable has no effect on what is not its descendant; forcing a root is being given its value: plain Lean.
  'BayesCauses' answers true.
-/
import Derived.Test.YtpkakapbepkfdaaL1M3
set_option linter.unusedVariables false
set_option linter.unusedSimpArgs false
set_option maxRecDepth 10000
namespace Go.Proofs.Ytpkakapbepkfdaa
open Go Go.Am

variable {h h' : Hp} {K : AV → Hp → Prop}

theorem WP_from {P : Program} {cfg : Cfg} {st : St} {h : Hp} {Q : Exit → St → Hp → Prop} {b : Code} (c n s : Nat) (J : Nat → St → Hp → Prop) (hs : s ≤ n) (h0 : st c = I s) (hJ : J s st h)
    (step : ∀ (i : Nat) st h, s ≤ i → i ≤ n → st c = I (i : Int) → J i st h → WP P cfg b st h (ForK c n J i Q)) : WP P cfg (.loop b) st h Q := by
  refine WP_loopK (fun m st h => ∃ i : Nat, m = n - i ∧ s ≤ i ∧ i ≤ n ∧ st c = I (i : Int) ∧ J i st h) (n - s) ⟨s, rfl, Nat.le_refl _, hs, h0, hJ⟩ ?_
  rintro m st h ⟨i, rfl, hsi, hi, hc, hj⟩
  refine WP_mono (step i st h hsi hi hc hj) fun x s' g hx => ?_
  cases x with
  | normal =>
    obtain ⟨h1, h2, h3⟩ := hx
    exact ⟨n - (i + 1), by omega, i + 1, rfl, by omega, by omega, by rw [h2]; rfl, h3⟩
  | exit j => exact hx
  | _ => exact hx

@[go_sem] theorem und113 : Try.prog.underlying 113 = some (.slice 4) := Try.underlying113
@[go_sem] theorem flat_bool (bs : List Bool) (k : Nat) (hk : k < bs.length) : (bs.flatMap (e1 AV.bool))[k]? = some (.bool (nth bs k)) := by
  have e : bs.flatMap (e1 AV.bool) = bs.map AV.bool := by
    clear hk
    induction bs with
    | nil => rfl
    | cons b bs ih => simp [e1, ih]
  rw [e, List.getElem?_map, List.getElem?_eq_getElem hk, nth_getElem hk]; rfl
/-- What the array of a search for descendants holds. -/
structure Seen (P : List (List Int)) (v : Nat) (bs : List Bool) (i : Nat) : Prop where
  len : bs.length = P.length
  lo : ∀ k, k ≤ v → nth bs k = false
  hi : ∀ k, v < k → k < i → nth bs k = (List.range (nth P k).length).any fun j => decide (nth (nth P k) j = (v : Int)) || nth bs (nth (nth P k) j).toNat
  out : ∀ k, i ≤ k → nth bs k = false

theorem f45_con (P T : List (List Int)) (N : Net P T) (v w : Nat) (hv : v < P.length) (hw : w < P.length) : ∃ bs, Seen P v bs P.length ∧ Con Try.prog cfg 45 [.agg [LLI P, LLI T], I v, I w] (.bool (nth bs w)) := by
  have hn1 := N.n1
  suffices hh : ∃ r, Con Try.prog cfg 45 [.agg [LLI P, LLI T], I v, I w] r ∧ ∃ bs, Seen P v bs P.length ∧ r = .bool (nth bs w) by
    obtain ⟨r, hc, bs, hs, rfl⟩ := hh
    exact ⟨bs, hs, hc⟩
  refine Con_introE Try.func45 rfl ok45 (Nat.le_of_ble_eq_true rfl) rfl ?_
  simp only [Try.f45, Option.getD_some, initSt3]
  have hmk := fun h => makeB_bool (P := Try.prog) (h := h) 4 (P.length : Int) isz4 ibytes4 izero4 (by omega) (by omega)
  simp (disch := first | (simp only [go_sem, Bool.and_self, eq_self]; done) | omega | (simp only [List.length_cons, List.length_nil]; omega)) only [go_sem, ↓reduceIte, Nat.reduceEqDiff, Nat.reduceAdd, Nat.reduceMul, Nat.reduceSub, Int.reduceToNat, Nat.reduceBEq, List.size_toArray, List.length_cons, List.length_nil, Bool.false_and, Bool.true_and, Bool.or_false, Bool.false_or, Bool.and_false, Bool.and_true, hmk, Int.toNat_natCast]
  refine WP_cut (fun st h => st 1 = I v ∧ st 2 = I w ∧ st 3 = .ptr 0 0 ∧ st 7 = .sl 1 0 P.length 1 ∧ ∃ bs, Seen P v bs P.length ∧ h.bl 1 = some (.cells false true (bs.flatMap (e1 AV.bool)))) ?_ ?_
  · refine WP_from 8 P.length (v + 1) (fun i st h => st 1 = I v ∧ st 2 = I w ∧ st 3 = .ptr 0 0 ∧ st 7 = .sl 1 0 P.length 1 ∧ h.bl 0 = some (.cells false false [LLI P, LLI T]) ∧ ∃ bs, Seen P v bs i ∧ h.bl 1 = some (.cells false true (bs.flatMap (e1 AV.bool)))) (by omega) (by simp (disch := first | (simp only [go_sem, Bool.and_self, eq_self]; done) | omega | (simp only [List.length_cons, List.length_nil]; omega)) only [go_sem, ↓reduceIte, Nat.reduceEqDiff, Nat.reduceAdd, Nat.reduceMul, Nat.reduceSub, Int.reduceToNat, Nat.reduceBEq, List.size_toArray, List.length_cons, List.length_nil, Bool.false_and, Bool.true_and, Bool.or_false, Bool.false_or, Bool.and_false, Bool.and_true]; rfl) ⟨by simp (disch := first | (simp only [go_sem, Bool.and_self, eq_self]; done) | omega | (simp only [List.length_cons, List.length_nil]; omega)) only [go_sem, ↓reduceIte, Nat.reduceEqDiff, Nat.reduceAdd, Nat.reduceMul, Nat.reduceSub, Int.reduceToNat, Nat.reduceBEq, List.size_toArray, List.length_cons, List.length_nil, Bool.false_and, Bool.true_and, Bool.or_false, Bool.false_or, Bool.and_false, Bool.and_true], by simp (disch := first | (simp only [go_sem, Bool.and_self, eq_self]; done) | omega | (simp only [List.length_cons, List.length_nil]; omega)) only [go_sem, ↓reduceIte, Nat.reduceEqDiff, Nat.reduceAdd, Nat.reduceMul, Nat.reduceSub, Int.reduceToNat, Nat.reduceBEq, List.size_toArray, List.length_cons, List.length_nil, Bool.false_and, Bool.true_and, Bool.or_false, Bool.false_or, Bool.and_false, Bool.and_true], by simp (disch := first | (simp only [go_sem, Bool.and_self, eq_self]; done) | omega | (simp only [List.length_cons, List.length_nil]; omega)) only [go_sem, ↓reduceIte, Nat.reduceEqDiff, Nat.reduceAdd, Nat.reduceMul, Nat.reduceSub, Int.reduceToNat, Nat.reduceBEq, List.size_toArray, List.length_cons, List.length_nil, Bool.false_and, Bool.true_and, Bool.or_false, Bool.false_or, Bool.and_false, Bool.and_true], by simp (disch := first | (simp only [go_sem, Bool.and_self, eq_self]; done) | omega | (simp only [List.length_cons, List.length_nil]; omega)) only [go_sem, ↓reduceIte, Nat.reduceEqDiff, Nat.reduceAdd, Nat.reduceMul, Nat.reduceSub, Int.reduceToNat, Nat.reduceBEq, List.size_toArray, List.length_cons, List.length_nil, Bool.false_and, Bool.true_and, Bool.or_false, Bool.false_or, Bool.and_false, Bool.and_true], by simp (disch := first | (simp only [go_sem, Bool.and_self, eq_self]; done) | omega | (simp only [List.length_cons, List.length_nil]; omega)) only [go_sem, ↓reduceIte, Nat.reduceEqDiff, Nat.reduceAdd, Nat.reduceMul, Nat.reduceSub, Int.reduceToNat, Nat.reduceBEq, List.size_toArray, List.length_cons, List.length_nil, Bool.false_and, Bool.true_and, Bool.or_false, Bool.false_or, Bool.and_false, Bool.and_true], List.replicate P.length false, ⟨by simp, fun k hk => ?_, by omega, fun k hk => ?_⟩, by simp (disch := first | (simp only [go_sem, Bool.and_self, eq_self]; done) | omega | (simp only [List.length_cons, List.length_nil]; omega)) only [go_sem, ↓reduceIte, Nat.reduceEqDiff, Nat.reduceAdd, Nat.reduceMul, Nat.reduceSub, Int.reduceToNat, Nat.reduceBEq, List.size_toArray, List.length_cons, List.length_nil, Bool.false_and, Bool.true_and, Bool.or_false, Bool.false_or, Bool.and_false, Bool.and_true]⟩ ?_
    · unfold nth; rw [List.getElem?_replicate]; split <;> rfl
    · unfold nth; rw [List.getElem?_replicate]; split <;> rfl
    rintro i st h hvi hi s8 ⟨s1, s2, s3, s7, b0, bs, S, b1⟩
    by_cases hlt : i < P.length
    case neg =>
      have hii : i = P.length := by omega
      rw [hii] at S
      simp (disch := first | (simp only [go_sem, Bool.and_self, eq_self]; done) | omega | (simp only [List.length_cons, List.length_nil]; omega)) only [go_sem, ↓reduceIte, Nat.reduceEqDiff, Nat.reduceAdd, Nat.reduceMul, Nat.reduceSub, Int.reduceToNat, Nat.reduceBEq, List.size_toArray, List.length_cons, List.length_nil, Bool.false_and, Bool.true_and, Bool.or_false, Bool.false_or, Bool.and_false, Bool.and_true, s1, s2, s3, s7, s8, b0, hlt]
      exact ⟨bs, S, b1⟩
    simp (disch := first | (simp only [go_sem, Bool.and_self, eq_self]; done) | omega | (simp only [List.length_cons, List.length_nil]; omega)) only [go_sem, ↓reduceIte, Nat.reduceEqDiff, Nat.reduceAdd, Nat.reduceMul, Nat.reduceSub, Int.reduceToNat, Nat.reduceBEq, List.size_toArray, List.length_cons, List.length_nil, Bool.false_and, Bool.true_and, Bool.or_false, Bool.false_or, Bool.and_false, Bool.and_true, s1, s2, s3, s7, s8, b0, hlt]
    refine WP_cut (fun st h => st 1 = I v ∧ st 2 = I w ∧ st 3 = .ptr 0 0 ∧ st 7 = .sl 1 0 P.length 1 ∧ st 8 = I i ∧ h.bl 0 = some (.cells false false [LLI P, LLI T]) ∧ ∃ bs, Seen P v bs (i + 1) ∧ h.bl 1 = some (.cells false true (bs.flatMap (e1 AV.bool)))) ?_ ?_
    · refine WP_for 9 (nth P i).length (fun j st h => st 1 = I v ∧ st 2 = I w ∧ st 3 = .ptr 0 0 ∧ st 7 = .sl 1 0 P.length 1 ∧ st 8 = I i ∧ h.bl 0 = some (.cells false false [LLI P, LLI T]) ∧ ∃ cs : List Bool, cs.length = P.length ∧ (∀ k, k ≠ i → nth cs k = nth bs k) ∧ nth cs i = (List.range j).any (fun j => decide (nth (nth P i) j = (v : Int)) || nth bs (nth (nth P i) j).toNat) ∧ h.bl 1 = some (.cells false true (cs.flatMap (e1 AV.bool)))) (by simp (disch := first | (simp only [go_sem, Bool.and_self, eq_self]; done) | omega | (simp only [List.length_cons, List.length_nil]; omega)) only [go_sem, ↓reduceIte, Nat.reduceEqDiff, Nat.reduceAdd, Nat.reduceMul, Nat.reduceSub, Int.reduceToNat, Nat.reduceBEq, List.size_toArray, List.length_cons, List.length_nil, Bool.false_and, Bool.true_and, Bool.or_false, Bool.false_or, Bool.and_false, Bool.and_true]) ⟨by simp (disch := first | (simp only [go_sem, Bool.and_self, eq_self]; done) | omega | (simp only [List.length_cons, List.length_nil]; omega)) only [go_sem, ↓reduceIte, Nat.reduceEqDiff, Nat.reduceAdd, Nat.reduceMul, Nat.reduceSub, Int.reduceToNat, Nat.reduceBEq, List.size_toArray, List.length_cons, List.length_nil, Bool.false_and, Bool.true_and, Bool.or_false, Bool.false_or, Bool.and_false, Bool.and_true, s1, s2, s3, s7], by simp (disch := first | (simp only [go_sem, Bool.and_self, eq_self]; done) | omega | (simp only [List.length_cons, List.length_nil]; omega)) only [go_sem, ↓reduceIte, Nat.reduceEqDiff, Nat.reduceAdd, Nat.reduceMul, Nat.reduceSub, Int.reduceToNat, Nat.reduceBEq, List.size_toArray, List.length_cons, List.length_nil, Bool.false_and, Bool.true_and, Bool.or_false, Bool.false_or, Bool.and_false, Bool.and_true, s1, s2, s3, s7], by simp (disch := first | (simp only [go_sem, Bool.and_self, eq_self]; done) | omega | (simp only [List.length_cons, List.length_nil]; omega)) only [go_sem, ↓reduceIte, Nat.reduceEqDiff, Nat.reduceAdd, Nat.reduceMul, Nat.reduceSub, Int.reduceToNat, Nat.reduceBEq, List.size_toArray, List.length_cons, List.length_nil, Bool.false_and, Bool.true_and, Bool.or_false, Bool.false_or, Bool.and_false, Bool.and_true, s1, s2, s3, s7], by simp (disch := first | (simp only [go_sem, Bool.and_self, eq_self]; done) | omega | (simp only [List.length_cons, List.length_nil]; omega)) only [go_sem, ↓reduceIte, Nat.reduceEqDiff, Nat.reduceAdd, Nat.reduceMul, Nat.reduceSub, Int.reduceToNat, Nat.reduceBEq, List.size_toArray, List.length_cons, List.length_nil, Bool.false_and, Bool.true_and, Bool.or_false, Bool.false_or, Bool.and_false, Bool.and_true, s1, s2, s3, s7], by simp (disch := first | (simp only [go_sem, Bool.and_self, eq_self]; done) | omega | (simp only [List.length_cons, List.length_nil]; omega)) only [go_sem, ↓reduceIte, Nat.reduceEqDiff, Nat.reduceAdd, Nat.reduceMul, Nat.reduceSub, Int.reduceToNat, Nat.reduceBEq, List.size_toArray, List.length_cons, List.length_nil, Bool.false_and, Bool.true_and, Bool.or_false, Bool.false_or, Bool.and_false, Bool.and_true, s8], b0, bs, S.len, fun _ _ => rfl, by rw [S.out i (Nat.le_refl _)]; rfl, b1⟩ ?_
      rintro j st h hj s9 ⟨s1, s2, s3, s7, s8, b0, cs, hcl, hce, hci, b1⟩
      by_cases hjl : j < (nth P i).length
      case neg =>
        have hjj : j = (nth P i).length := by omega
        simp (disch := first | (simp only [go_sem, Bool.and_self, eq_self]; done) | omega | (simp only [List.length_cons, List.length_nil]; omega)) only [go_sem, ↓reduceIte, Nat.reduceEqDiff, Nat.reduceAdd, Nat.reduceMul, Nat.reduceSub, Int.reduceToNat, Nat.reduceBEq, List.size_toArray, List.length_cons, List.length_nil, Bool.false_and, Bool.true_and, Bool.or_false, Bool.false_or, Bool.and_false, Bool.and_true, s1, s2, s3, s7, s8, s9, b0, hlt, hjl]
        refine ⟨cs, ⟨hcl, fun k hk => by rw [hce k (by omega)]; exact S.lo k hk, fun k hk hk2 => ?_, fun k hk => by rw [hce k (by omega)]; exact S.out k (by omega)⟩, b1⟩
        have agree : ∀ k, k < P.length → ∀ j, j < (nth P k).length → k ≤ i → nth cs (nth (nth P k) j).toNat = nth bs (nth (nth P k) j).toNat := fun k hk j hj hki => by
          obtain ⟨p0, p1⟩ := N.par k j hk hj
          exact hce _ (by omega)
        have e : ∀ k, k ≤ i → ((List.range (nth P k).length).any fun j => decide (nth (nth P k) j = (v : Int)) || nth cs (nth (nth P k) j).toNat) = ((List.range (nth P k).length).any fun j => decide (nth (nth P k) j = (v : Int)) || nth bs (nth (nth P k) j).toNat) := fun k hki => by
          rw [Bool.eq_iff_iff, List.any_eq_true, List.any_eq_true]
          constructor
          · rintro ⟨j, hj, h⟩
            rw [agree k (by omega) j (by simpa using hj) hki] at h
            exact ⟨j, hj, h⟩
          · rintro ⟨j, hj, h⟩
            rw [← agree k (by omega) j (by simpa using hj) hki] at h
            exact ⟨j, hj, h⟩
        rw [e k (by omega)]
        by_cases hki : k = i
        · subst hki; rw [hci, hjj]
        · rw [hce k hki]; exact S.hi k hk (by omega)
      obtain ⟨p0, p1⟩ := N.par i j hlt hjl
      have hpl3 := N.pl i hlt
      have hic : i < cs.length := by omega
      have hpc : (nth (nth P i) j) < cs.length := by omega
      have hpe := hce (nth (nth P i) j).toNat (by omega)
      have fin : ∀ b : Bool, b = (nth cs i || (decide (nth (nth P i) j = (v : Int)) || nth bs (nth (nth P i) j).toNat)) → (cs.set i b).length = P.length ∧ (∀ k, k ≠ i → nth (cs.set i b) k = nth bs k) ∧ nth (cs.set i b) i = (List.range (j + 1)).any (fun j => decide (nth (nth P i) j = (v : Int)) || nth bs (nth (nth P i) j).toNat) := fun b hb => by
        refine ⟨by simpa using hcl, fun k hk => by rw [nth_set _ _ _ _ hic, if_neg (fun h => hk h.symm)]; exact hce k hk, ?_⟩
        rw [nth_set _ _ _ _ hic, if_pos rfl, hb, hci, List.range_succ, List.any_append]
        simp
      cases h1 : nth cs i with
      | true =>
        have f := fin true (by rw [h1]; rfl)
        simp (disch := first | (simp only [go_sem, Bool.and_self, eq_self]; done) | omega | (simp only [List.length_cons, List.length_nil]; omega)) only [go_sem, ↓reduceIte, Nat.reduceEqDiff, Nat.reduceAdd, Nat.reduceMul, Nat.reduceSub, Int.reduceToNat, Nat.reduceBEq, List.size_toArray, List.length_cons, List.length_nil, Bool.false_and, Bool.true_and, Bool.or_false, Bool.false_or, Bool.and_false, Bool.and_true, s1, s2, s3, s7, s8, s9, b0, b1, hlt, hjl, hic, h1]
        rw [ForK_normal]
        exact ⟨hjl, by simp (disch := first | (simp only [go_sem, Bool.and_self, eq_self]; done) | omega | (simp only [List.length_cons, List.length_nil]; omega)) only [go_sem, ↓reduceIte, Nat.reduceEqDiff, Nat.reduceAdd, Nat.reduceMul, Nat.reduceSub, Int.reduceToNat, Nat.reduceBEq, List.size_toArray, List.length_cons, List.length_nil, Bool.false_and, Bool.true_and, Bool.or_false, Bool.false_or, Bool.and_false, Bool.and_true, s9], by simp (disch := first | (simp only [go_sem, Bool.and_self, eq_self]; done) | omega | (simp only [List.length_cons, List.length_nil]; omega)) only [go_sem, ↓reduceIte, Nat.reduceEqDiff, Nat.reduceAdd, Nat.reduceMul, Nat.reduceSub, Int.reduceToNat, Nat.reduceBEq, List.size_toArray, List.length_cons, List.length_nil, Bool.false_and, Bool.true_and, Bool.or_false, Bool.false_or, Bool.and_false, Bool.and_true, s1], by simp (disch := first | (simp only [go_sem, Bool.and_self, eq_self]; done) | omega | (simp only [List.length_cons, List.length_nil]; omega)) only [go_sem, ↓reduceIte, Nat.reduceEqDiff, Nat.reduceAdd, Nat.reduceMul, Nat.reduceSub, Int.reduceToNat, Nat.reduceBEq, List.size_toArray, List.length_cons, List.length_nil, Bool.false_and, Bool.true_and, Bool.or_false, Bool.false_or, Bool.and_false, Bool.and_true, s2], by simp (disch := first | (simp only [go_sem, Bool.and_self, eq_self]; done) | omega | (simp only [List.length_cons, List.length_nil]; omega)) only [go_sem, ↓reduceIte, Nat.reduceEqDiff, Nat.reduceAdd, Nat.reduceMul, Nat.reduceSub, Int.reduceToNat, Nat.reduceBEq, List.size_toArray, List.length_cons, List.length_nil, Bool.false_and, Bool.true_and, Bool.or_false, Bool.false_or, Bool.and_false, Bool.and_true, s3], by simp (disch := first | (simp only [go_sem, Bool.and_self, eq_self]; done) | omega | (simp only [List.length_cons, List.length_nil]; omega)) only [go_sem, ↓reduceIte, Nat.reduceEqDiff, Nat.reduceAdd, Nat.reduceMul, Nat.reduceSub, Int.reduceToNat, Nat.reduceBEq, List.size_toArray, List.length_cons, List.length_nil, Bool.false_and, Bool.true_and, Bool.or_false, Bool.false_or, Bool.and_false, Bool.and_true, s7], by simp (disch := first | (simp only [go_sem, Bool.and_self, eq_self]; done) | omega | (simp only [List.length_cons, List.length_nil]; omega)) only [go_sem, ↓reduceIte, Nat.reduceEqDiff, Nat.reduceAdd, Nat.reduceMul, Nat.reduceSub, Int.reduceToNat, Nat.reduceBEq, List.size_toArray, List.length_cons, List.length_nil, Bool.false_and, Bool.true_and, Bool.or_false, Bool.false_or, Bool.and_false, Bool.and_true, s8], by simp (disch := first | (simp only [go_sem, Bool.and_self, eq_self]; done) | omega | (simp only [List.length_cons, List.length_nil]; omega)) only [go_sem, ↓reduceIte, Nat.reduceEqDiff, Nat.reduceAdd, Nat.reduceMul, Nat.reduceSub, Int.reduceToNat, Nat.reduceBEq, List.size_toArray, List.length_cons, List.length_nil, Bool.false_and, Bool.true_and, Bool.or_false, Bool.false_or, Bool.and_false, Bool.and_true, b0], _, f.1, f.2.1, f.2.2, by simp (disch := first | (simp only [go_sem, Bool.and_self, eq_self]; done) | omega | (simp only [List.length_cons, List.length_nil]; omega)) only [go_sem, ↓reduceIte, Nat.reduceEqDiff, Nat.reduceAdd, Nat.reduceMul, Nat.reduceSub, Int.reduceToNat, Nat.reduceBEq, List.size_toArray, List.length_cons, List.length_nil, Bool.false_and, Bool.true_and, Bool.or_false, Bool.false_or, Bool.and_false, Bool.and_true]⟩
      | false =>
      by_cases h2 : nth (nth P i) j = (v : Int)
      · have f := fin true (by rw [h1, decide_eq_true h2]; rfl)
        simp (disch := first | (simp only [go_sem, Bool.and_self, eq_self]; done) | omega | (simp only [List.length_cons, List.length_nil]; omega)) only [go_sem, ↓reduceIte, Nat.reduceEqDiff, Nat.reduceAdd, Nat.reduceMul, Nat.reduceSub, Int.reduceToNat, Nat.reduceBEq, List.size_toArray, List.length_cons, List.length_nil, Bool.false_and, Bool.true_and, Bool.or_false, Bool.false_or, Bool.and_false, Bool.and_true, s1, s2, s3, s7, s8, s9, b0, b1, hlt, hjl, hic, h1, h2]
        rw [ForK_normal]
        exact ⟨hjl, by simp (disch := first | (simp only [go_sem, Bool.and_self, eq_self]; done) | omega | (simp only [List.length_cons, List.length_nil]; omega)) only [go_sem, ↓reduceIte, Nat.reduceEqDiff, Nat.reduceAdd, Nat.reduceMul, Nat.reduceSub, Int.reduceToNat, Nat.reduceBEq, List.size_toArray, List.length_cons, List.length_nil, Bool.false_and, Bool.true_and, Bool.or_false, Bool.false_or, Bool.and_false, Bool.and_true, s9], by simp (disch := first | (simp only [go_sem, Bool.and_self, eq_self]; done) | omega | (simp only [List.length_cons, List.length_nil]; omega)) only [go_sem, ↓reduceIte, Nat.reduceEqDiff, Nat.reduceAdd, Nat.reduceMul, Nat.reduceSub, Int.reduceToNat, Nat.reduceBEq, List.size_toArray, List.length_cons, List.length_nil, Bool.false_and, Bool.true_and, Bool.or_false, Bool.false_or, Bool.and_false, Bool.and_true, s1], by simp (disch := first | (simp only [go_sem, Bool.and_self, eq_self]; done) | omega | (simp only [List.length_cons, List.length_nil]; omega)) only [go_sem, ↓reduceIte, Nat.reduceEqDiff, Nat.reduceAdd, Nat.reduceMul, Nat.reduceSub, Int.reduceToNat, Nat.reduceBEq, List.size_toArray, List.length_cons, List.length_nil, Bool.false_and, Bool.true_and, Bool.or_false, Bool.false_or, Bool.and_false, Bool.and_true, s2], by simp (disch := first | (simp only [go_sem, Bool.and_self, eq_self]; done) | omega | (simp only [List.length_cons, List.length_nil]; omega)) only [go_sem, ↓reduceIte, Nat.reduceEqDiff, Nat.reduceAdd, Nat.reduceMul, Nat.reduceSub, Int.reduceToNat, Nat.reduceBEq, List.size_toArray, List.length_cons, List.length_nil, Bool.false_and, Bool.true_and, Bool.or_false, Bool.false_or, Bool.and_false, Bool.and_true, s3], by simp (disch := first | (simp only [go_sem, Bool.and_self, eq_self]; done) | omega | (simp only [List.length_cons, List.length_nil]; omega)) only [go_sem, ↓reduceIte, Nat.reduceEqDiff, Nat.reduceAdd, Nat.reduceMul, Nat.reduceSub, Int.reduceToNat, Nat.reduceBEq, List.size_toArray, List.length_cons, List.length_nil, Bool.false_and, Bool.true_and, Bool.or_false, Bool.false_or, Bool.and_false, Bool.and_true, s7], by simp (disch := first | (simp only [go_sem, Bool.and_self, eq_self]; done) | omega | (simp only [List.length_cons, List.length_nil]; omega)) only [go_sem, ↓reduceIte, Nat.reduceEqDiff, Nat.reduceAdd, Nat.reduceMul, Nat.reduceSub, Int.reduceToNat, Nat.reduceBEq, List.size_toArray, List.length_cons, List.length_nil, Bool.false_and, Bool.true_and, Bool.or_false, Bool.false_or, Bool.and_false, Bool.and_true, s8], by simp (disch := first | (simp only [go_sem, Bool.and_self, eq_self]; done) | omega | (simp only [List.length_cons, List.length_nil]; omega)) only [go_sem, ↓reduceIte, Nat.reduceEqDiff, Nat.reduceAdd, Nat.reduceMul, Nat.reduceSub, Int.reduceToNat, Nat.reduceBEq, List.size_toArray, List.length_cons, List.length_nil, Bool.false_and, Bool.true_and, Bool.or_false, Bool.false_or, Bool.and_false, Bool.and_true, b0], _, f.1, f.2.1, f.2.2, by simp (disch := first | (simp only [go_sem, Bool.and_self, eq_self]; done) | omega | (simp only [List.length_cons, List.length_nil]; omega)) only [go_sem, ↓reduceIte, Nat.reduceEqDiff, Nat.reduceAdd, Nat.reduceMul, Nat.reduceSub, Int.reduceToNat, Nat.reduceBEq, List.size_toArray, List.length_cons, List.length_nil, Bool.false_and, Bool.true_and, Bool.or_false, Bool.false_or, Bool.and_false, Bool.and_true]⟩
      · have f := fin (nth bs (nth (nth P i) j).toNat) (by rw [h1, decide_eq_false h2]; rfl)
        simp (disch := first | (simp only [go_sem, Bool.and_self, eq_self]; done) | omega | (simp only [List.length_cons, List.length_nil]; omega)) only [go_sem, ↓reduceIte, Nat.reduceEqDiff, Nat.reduceAdd, Nat.reduceMul, Nat.reduceSub, Int.reduceToNat, Nat.reduceBEq, List.size_toArray, List.length_cons, List.length_nil, Bool.false_and, Bool.true_and, Bool.or_false, Bool.false_or, Bool.and_false, Bool.and_true, s1, s2, s3, s7, s8, s9, b0, b1, hlt, hjl, hic, h1, h2, hpc, p0, hpe]
        rw [ForK_normal]
        exact ⟨hjl, by simp (disch := first | (simp only [go_sem, Bool.and_self, eq_self]; done) | omega | (simp only [List.length_cons, List.length_nil]; omega)) only [go_sem, ↓reduceIte, Nat.reduceEqDiff, Nat.reduceAdd, Nat.reduceMul, Nat.reduceSub, Int.reduceToNat, Nat.reduceBEq, List.size_toArray, List.length_cons, List.length_nil, Bool.false_and, Bool.true_and, Bool.or_false, Bool.false_or, Bool.and_false, Bool.and_true, s9], by simp (disch := first | (simp only [go_sem, Bool.and_self, eq_self]; done) | omega | (simp only [List.length_cons, List.length_nil]; omega)) only [go_sem, ↓reduceIte, Nat.reduceEqDiff, Nat.reduceAdd, Nat.reduceMul, Nat.reduceSub, Int.reduceToNat, Nat.reduceBEq, List.size_toArray, List.length_cons, List.length_nil, Bool.false_and, Bool.true_and, Bool.or_false, Bool.false_or, Bool.and_false, Bool.and_true, s1], by simp (disch := first | (simp only [go_sem, Bool.and_self, eq_self]; done) | omega | (simp only [List.length_cons, List.length_nil]; omega)) only [go_sem, ↓reduceIte, Nat.reduceEqDiff, Nat.reduceAdd, Nat.reduceMul, Nat.reduceSub, Int.reduceToNat, Nat.reduceBEq, List.size_toArray, List.length_cons, List.length_nil, Bool.false_and, Bool.true_and, Bool.or_false, Bool.false_or, Bool.and_false, Bool.and_true, s2], by simp (disch := first | (simp only [go_sem, Bool.and_self, eq_self]; done) | omega | (simp only [List.length_cons, List.length_nil]; omega)) only [go_sem, ↓reduceIte, Nat.reduceEqDiff, Nat.reduceAdd, Nat.reduceMul, Nat.reduceSub, Int.reduceToNat, Nat.reduceBEq, List.size_toArray, List.length_cons, List.length_nil, Bool.false_and, Bool.true_and, Bool.or_false, Bool.false_or, Bool.and_false, Bool.and_true, s3], by simp (disch := first | (simp only [go_sem, Bool.and_self, eq_self]; done) | omega | (simp only [List.length_cons, List.length_nil]; omega)) only [go_sem, ↓reduceIte, Nat.reduceEqDiff, Nat.reduceAdd, Nat.reduceMul, Nat.reduceSub, Int.reduceToNat, Nat.reduceBEq, List.size_toArray, List.length_cons, List.length_nil, Bool.false_and, Bool.true_and, Bool.or_false, Bool.false_or, Bool.and_false, Bool.and_true, s7], by simp (disch := first | (simp only [go_sem, Bool.and_self, eq_self]; done) | omega | (simp only [List.length_cons, List.length_nil]; omega)) only [go_sem, ↓reduceIte, Nat.reduceEqDiff, Nat.reduceAdd, Nat.reduceMul, Nat.reduceSub, Int.reduceToNat, Nat.reduceBEq, List.size_toArray, List.length_cons, List.length_nil, Bool.false_and, Bool.true_and, Bool.or_false, Bool.false_or, Bool.and_false, Bool.and_true, s8], by simp (disch := first | (simp only [go_sem, Bool.and_self, eq_self]; done) | omega | (simp only [List.length_cons, List.length_nil]; omega)) only [go_sem, ↓reduceIte, Nat.reduceEqDiff, Nat.reduceAdd, Nat.reduceMul, Nat.reduceSub, Int.reduceToNat, Nat.reduceBEq, List.size_toArray, List.length_cons, List.length_nil, Bool.false_and, Bool.true_and, Bool.or_false, Bool.false_or, Bool.and_false, Bool.and_true, b0], _, f.1, f.2.1, f.2.2, by simp (disch := first | (simp only [go_sem, Bool.and_self, eq_self]; done) | omega | (simp only [List.length_cons, List.length_nil]; omega)) only [go_sem, ↓reduceIte, Nat.reduceEqDiff, Nat.reduceAdd, Nat.reduceMul, Nat.reduceSub, Int.reduceToNat, Nat.reduceBEq, List.size_toArray, List.length_cons, List.length_nil, Bool.false_and, Bool.true_and, Bool.or_false, Bool.false_or, Bool.and_false, Bool.and_true]⟩
    rintro st h ⟨s1, s2, s3, s7, s8, b0, bs, S, b1⟩
    simp (disch := first | (simp only [go_sem, Bool.and_self, eq_self]; done) | omega | (simp only [List.length_cons, List.length_nil]; omega)) only [go_sem, ↓reduceIte, Nat.reduceEqDiff, Nat.reduceAdd, Nat.reduceMul, Nat.reduceSub, Int.reduceToNat, Nat.reduceBEq, List.size_toArray, List.length_cons, List.length_nil, Bool.false_and, Bool.true_and, Bool.or_false, Bool.false_or, Bool.and_false, Bool.and_true, s1, s2, s3, s7, s8]
    rw [ForK_normal]
    exact ⟨hlt, by simp (disch := first | (simp only [go_sem, Bool.and_self, eq_self]; done) | omega | (simp only [List.length_cons, List.length_nil]; omega)) only [go_sem, ↓reduceIte, Nat.reduceEqDiff, Nat.reduceAdd, Nat.reduceMul, Nat.reduceSub, Int.reduceToNat, Nat.reduceBEq, List.size_toArray, List.length_cons, List.length_nil, Bool.false_and, Bool.true_and, Bool.or_false, Bool.false_or, Bool.and_false, Bool.and_true, s8], by simp (disch := first | (simp only [go_sem, Bool.and_self, eq_self]; done) | omega | (simp only [List.length_cons, List.length_nil]; omega)) only [go_sem, ↓reduceIte, Nat.reduceEqDiff, Nat.reduceAdd, Nat.reduceMul, Nat.reduceSub, Int.reduceToNat, Nat.reduceBEq, List.size_toArray, List.length_cons, List.length_nil, Bool.false_and, Bool.true_and, Bool.or_false, Bool.false_or, Bool.and_false, Bool.and_true, s1], by simp (disch := first | (simp only [go_sem, Bool.and_self, eq_self]; done) | omega | (simp only [List.length_cons, List.length_nil]; omega)) only [go_sem, ↓reduceIte, Nat.reduceEqDiff, Nat.reduceAdd, Nat.reduceMul, Nat.reduceSub, Int.reduceToNat, Nat.reduceBEq, List.size_toArray, List.length_cons, List.length_nil, Bool.false_and, Bool.true_and, Bool.or_false, Bool.false_or, Bool.and_false, Bool.and_true, s2], by simp (disch := first | (simp only [go_sem, Bool.and_self, eq_self]; done) | omega | (simp only [List.length_cons, List.length_nil]; omega)) only [go_sem, ↓reduceIte, Nat.reduceEqDiff, Nat.reduceAdd, Nat.reduceMul, Nat.reduceSub, Int.reduceToNat, Nat.reduceBEq, List.size_toArray, List.length_cons, List.length_nil, Bool.false_and, Bool.true_and, Bool.or_false, Bool.false_or, Bool.and_false, Bool.and_true, s3], by simp (disch := first | (simp only [go_sem, Bool.and_self, eq_self]; done) | omega | (simp only [List.length_cons, List.length_nil]; omega)) only [go_sem, ↓reduceIte, Nat.reduceEqDiff, Nat.reduceAdd, Nat.reduceMul, Nat.reduceSub, Int.reduceToNat, Nat.reduceBEq, List.size_toArray, List.length_cons, List.length_nil, Bool.false_and, Bool.true_and, Bool.or_false, Bool.false_or, Bool.and_false, Bool.and_true, s7], by simp (disch := first | (simp only [go_sem, Bool.and_self, eq_self]; done) | omega | (simp only [List.length_cons, List.length_nil]; omega)) only [go_sem, ↓reduceIte, Nat.reduceEqDiff, Nat.reduceAdd, Nat.reduceMul, Nat.reduceSub, Int.reduceToNat, Nat.reduceBEq, List.size_toArray, List.length_cons, List.length_nil, Bool.false_and, Bool.true_and, Bool.or_false, Bool.false_or, Bool.and_false, Bool.and_true, b0], bs, S, b1⟩
  · rintro st h ⟨s1, s2, s3, s7, bs, S, b1⟩
    have hwl : w < bs.length := by rw [S.len]; exact hw
    simp (disch := first | (simp only [go_sem, Bool.and_self, eq_self]; done) | omega | (simp only [List.length_cons, List.length_nil]; omega)) only [go_sem, ↓reduceIte, Nat.reduceEqDiff, Nat.reduceAdd, Nat.reduceMul, Nat.reduceSub, Int.reduceToNat, Nat.reduceBEq, List.size_toArray, List.length_cons, List.length_nil, Bool.false_and, Bool.true_and, Bool.or_false, Bool.false_or, Bool.and_false, Bool.and_true, s1, s2, s3, s7, b1, hwl]
    exact ⟨_, rfl, bs, S, rfl⟩

end Go.Proofs.Ytpkakapbepkfdaa

set_option linter.unusedVariables false
set_option linter.unusedSimpArgs false
set_option maxRecDepth 10000
namespace Go.Proofs.Ytpkakapbepkfdaa
open Go Go.Am

/-- The sum over all rows. -/
def sumR (m : Nat) (f : List Int → Int) : Int := sumN (fun y => f (rowN m y)) (2 ^ m)
theorem sumR_succ (m : Nat) (f : List Int → Int) : sumR (m + 1) f = sumR m fun r => f (r ++ [0]) + f (r ++ [1]) := by
  unfold sumR
  rw [Nat.pow_succ, Nat.mul_comm, sumN_two]
  refine sumN_congr fun y _ => ?_
  have r0 := rowN_two m y 0 (by decide)
  have r1 := rowN_two m y 1 (by decide)
  simp only [Nat.add_zero] at r0
  rw [r0, r1]; rfl
theorem sumR_congr {m : Nat} {f g : List Int → Int} (h : ∀ r, r.length = m → f r = g r) : sumR m f = sumR m g := sumN_congr fun y _ => h _ (rowN_len m y)
theorem sumR_zero (f : List Int → Int) : sumR 0 f = f [] := by simp [sumR, sumN, rowN]

def gG (k : Nat → List Int → Int) (F : List Int → Int) : Nat → List Int → Int
  | 0, r => F r
  | d + 1, r => k r.length (r ++ [0]) * gG k F d (r ++ [0]) + k r.length (r ++ [1]) * gG k F d (r ++ [1])
theorem sum_gG {k : Nat → List Int → Int} (F : List Int → Int) (hk : ∀ i (r : List Int) (b : Int), i < r.length → k i (r ++ [b]) = k i r) : ∀ d m, sumR (m + d) (fun r => prodN (fun i => k i r) (m + d) * F r) = sumR m fun r => prodN (fun i => k i r) m * gG k F d r
  | 0, m => rfl
  | d + 1, m => by
    have ih := sum_gG F hk d (m + 1)
    rw [show m + (d + 1) = m + 1 + d by omega, ih, sumR_succ]
    refine sumR_congr fun r hr => ?_
    have fr : ∀ b : Int, prodN (fun i => k i (r ++ [b])) m = prodN (fun i => k i r) m := fun b => prodN_congr fun i hi => hk i r b (by omega)
    simp only [prodN, fr, gG, hr]
    rw [Int.mul_assoc, Int.mul_assoc, ← Int.mul_add]
theorem gG_congr {k k' : Nat → List Int → Int} {F : List Int → Int} {n : Nat} {A : Nat → Prop}
    (hF : ∀ r s : List Int, r.length = n → s.length = n → (∀ i, i < n → A i → nth r i = nth s i) → F r = F s)
    (hA : ∀ i, i < n → A i → ∀ r s : List Int, r.length = i + 1 → s.length = i + 1 → (∀ j, j < i + 1 → A j → nth r j = nth s j) → k i r = k' i s)
    (hB : ∀ i, i < n → ¬ A i → ∀ r : List Int, r.length = i → k i (r ++ [0]) + k i (r ++ [1]) = 16 ∧ k' i (r ++ [0]) + k' i (r ++ [1]) = 16) :
    ∀ d m (r s : List Int), m + d = n → r.length = m → s.length = m → (∀ i, i < m → A i → nth r i = nth s i) → gG k F d r = gG k' F d s
  | 0, m, r, s, hm, hr, hs, h => hF r s (by omega) (by omega) (fun i hi => h i (by omega))
  | d + 1, m, r, s, hm, hr, hs, h => by
    have snoc : ∀ (b c : Int), (A m → b = c) → ∀ i, i < m + 1 → A i → nth (r ++ [b]) i = nth (s ++ [c]) i := fun b c hbc i hi ha => by
      rcases Nat.lt_or_ge i m with h1 | h1
      · rw [nth_append_left _ _ _ (by omega), nth_append_left _ _ _ (by omega)]; exact h i h1 ha
      · have him : i = m := by omega
        subst him
        rw [nth, nth, List.getElem?_append_right (by omega), List.getElem?_append_right (by omega), hr, hs]
        simp [hbc ha]
    have ih := fun (b c : Int) (hbc : A m → b = c) => gG_congr hF hA hB d (m + 1) (r ++ [b]) (s ++ [c]) (by omega) (by simp [hr]) (by simp [hs]) (snoc b c hbc)
    simp only [gG, hr, hs]
    by_cases ham : A m
    · rw [ih 0 0 (fun _ => rfl), ih 1 1 (fun _ => rfl), hA m (by omega) ham (r ++ [0]) (s ++ [0]) (by simp [hr]) (by simp [hs]) (snoc 0 0 fun _ => rfl), hA m (by omega) ham (r ++ [1]) (s ++ [1]) (by simp [hr]) (by simp [hs]) (snoc 1 1 fun _ => rfl)]
    · have e00 := ih 0 0 (fun _ => rfl)
      have e10 := ih 1 0 (fun h => absurd h ham)
      have e01 := ih 0 1 (fun h => absurd h ham)
      have b1 := (hB m (by omega) ham r hr).1
      have b2 := (hB m (by omega) ham s hs).2
      rw [e10, e00, ← e01, e00, ← Int.add_mul, ← Int.add_mul, b1, b2]

theorem wt_forced {p t : List (List Int)} {v : Nat} {x : Int} {i : Nat} (hi : i < p.length) (r : List Int) : wt (forceP p v) (forceT p t v x) r i = if i = v then (if nth r v = 0 then 16 - 16 * x else 16 * x) else wt p t r i := by
  have e1 : nth (forceP p v) i = rowFP p v i := nth_map_range _ _ _ hi
  have e2 : nth (forceT p t v x) i = rowFT t v x i := nth_map_range _ _ _ hi
  unfold wt
  rw [e1, e2]
  by_cases hiv : i = v
  · subst hiv
    simp [rowFP, rowFT, caseF, nth]
    rfl
  · simp [rowFP, rowFT, hiv]
theorem refS_sumR (p t : List (List Int)) (f g : List (Int × Int)) : refS p t f g = sumR p.length fun r => if agreeB r f && agreeB r g then weightB p t r p.length else 0 := rfl

theorem wt_pair {p t : List (List Int)} (N : Net p t) {r : List Int} {i : Nat} (hi : i < p.length) (hr : r.length = i) : wt p t (r ++ [0]) i + wt p t (r ++ [1]) i = 16 := by
  have last : ∀ b : Int, nth (r ++ [b]) i = b := fun b => by rw [nth, List.getElem?_append_right (by omega), hr]; simp
  have cs : ∀ b : Int, caseF (nth p i) (r ++ [b]) (nth p i).length = caseF (nth p i) r (nth p i).length := fun b => caseF_congr fun k hk => by
    obtain ⟨a0, a1⟩ := N.par i k hi hk
    exact nth_append_left _ _ _ (by omega)
  simp only [wt, last, cs, if_true, show ¬ (1 : Int) = 0 by decide, if_false]
  omega
theorem prodN_all {f g : Nat → Int} {n : Nat} (h : ∀ i, i < n → f i = g i) : prodN f n = prodN g n := prodN_congr h
theorem sum_row (p t : List (List Int)) (N : Net p t) (w : Int) : refS p t [(w, 1)] [] = gG (fun i r => if i < p.length then wt p t r i else 0) (fun r => if agreeB r [(w, 1)] then 1 else 0) p.length [] := by
  have hk : ∀ i (r : List Int) (b : Int), i < r.length → (fun i r => if i < p.length then wt p t r i else 0) i (r ++ [b]) = (fun i r => if i < p.length then wt p t r i else 0) i r := fun i r b hi => by
    simp only
    split
    · rename_i h; exact wt_front N h fun k hk => nth_append_left _ _ _ (by omega)
    · rfl
  have h := sum_gG (k := fun i r => if i < p.length then wt p t r i else 0) (fun r => if agreeB r [(w, 1)] then 1 else 0) hk p.length 0
  rw [sumR_zero, Nat.zero_add] at h
  simp only [prodN, Int.one_mul] at h
  rw [← h, refS_sumR]
  refine sumR_congr fun r hr => ?_
  have e : prodN (fun i => if i < p.length then wt p t r i else 0) p.length = weightB p t r p.length := prodN_congr fun i hi => by rw [if_pos hi]
  have : agreeB r [] = true := rfl
  rw [e, this]
  cases agreeB r [(w, 1)] <;> simp
theorem no_effect {p t : List (List Int)} (h1 : netB p t = true) {v w : Nat} (hv : v < p.length) (hw : w < p.length) (hvw : v ≠ w) {bs : List Bool} (S : Seen p v bs p.length) (hbs : nth bs w = false) :
    refS (forceP p v) (forceT p t v 0) [((w : Int), 1)] [] = refS (forceP p v) (forceT p t v 1) [((w : Int), 1)] [] := by
  have N := Net.of h1
  have N0 := Net.of (force_net h1 (v := v) (x := 0) (by decide))
  have N1 := Net.of (force_net h1 (v := v) (x := 1) (by decide))
  rw [sum_row _ _ N0, sum_row _ _ N1, forceP_len]
  refine gG_congr (n := p.length) (A := fun i => i ≠ v ∧ nth bs i = false) ?_ ?_ ?_ p.length 0 [] [] (by omega) rfl rfl (by omega)
  · intro r s hr hs h
    have := h w hw ⟨Ne.symm hvw, hbs⟩
    simp [agreeB, this]
  · rintro i hi ⟨hiv, hbi⟩ r s hr hs h
    simp only [if_pos hi]
    rw [wt_forced hi, wt_forced hi, if_neg hiv, if_neg hiv]
    have hpar : ∀ j, j < (nth p i).length → nth r (nth (nth p i) j).toNat = nth s (nth (nth p i) j).toNat := fun j hj => by
      obtain ⟨p0, p1⟩ := N.par i j hi hj
      refine h _ (by omega) ?_
      rcases Nat.lt_or_ge v i with hvi | hvi
      · have h2 := S.hi i hvi hi
        rw [hbi] at h2
        have h3 := (List.any_eq_false.1 h2.symm) j (by simpa using hj)
        simp only [Bool.or_eq_true, decide_eq_true_eq, not_or] at h3
        refine ⟨fun e => h3.1 (by omega), ?_⟩
        simpa using h3.2
      · exact ⟨by omega, S.lo _ (by omega)⟩
    have hc : caseF (nth p i) r (nth p i).length = caseF (nth p i) s (nth p i).length := caseF_congr hpar
    simp only [wt, hc, h i (by omega) ⟨hiv, hbi⟩]
  · intro i hi _ r hr
    simp only [if_pos hi]
    exact ⟨wt_pair N0 (by rw [forceP_len]; exact hi) hr, wt_pair N1 (by rw [forceP_len]; exact hi) hr⟩

/-! ### On itself -/
theorem prodN_zero {f : Nat → Int} {v : Nat} (hf : f v = 0) : ∀ {n : Nat}, v < n → prodN f n = 0
  | n + 1, h => by
    rw [prodN]
    rcases Nat.lt_or_ge v n with h1 | h1
    · rw [prodN_zero hf h1, Int.zero_mul]
    · rw [show n = v by omega, hf, Int.mul_zero]
theorem weight_off {p t : List (List Int)} {v : Nat} (hv : v < p.length) {x : Int} (hx : x = 0 ∨ x = 1) {r : List Int} (hr : nth r v = 0 ∨ nth r v = 1) (hne : nth r v ≠ x) : weightB (forceP p v) (forceT p t v x) r p.length = 0 := by
  refine prodN_zero (v := v) ?_ hv
  rw [wt_forced hv, if_pos rfl]
  rcases hx with rfl | rfl <;> rcases hr with h | h <;> rw [h] at hne ⊢ <;> simp at hne ⊢
theorem own_effect {p t : List (List Int)} (h1 : netB p t = true) {v : Nat} (hv : v < p.length) : refS (forceP p v) (forceT p t v 0) [((v : Int), 1)] [] = 0 ∧ refS (forceP p v) (forceT p t v 1) [((v : Int), 1)] [] = 16 ^ p.length := by
  have N1 := Net.of (force_net h1 (v := v) (x := 1) (by decide))
  have bit : ∀ y, nth (rowN p.length y) v = 0 ∨ nth (rowN p.length y) v = 1 := fun y => (row_rowN (p := p) (x := y)).bit v hv
  have tw := total_weight N1
  rw [forceP_len] at tw
  constructor
  · rw [refS, forceP_len]
    refine sumN_nonneg_zero fun y hy => ?_
    unfold refT
    rw [forceP_len]
    split
    · rename_i h
      simp only [agreeB, List.all_cons, List.all_nil, Bool.and_true, decide_eq_true_eq, Int.toNat_natCast] at h
      exact weight_off hv (.inl rfl) (bit y) (by rw [h]; decide)
    · rfl
  · rw [← tw, refS, forceP_len]
    refine sumN_congr fun y hy => ?_
    unfold refT
    rw [forceP_len]
    split
    · rfl
    · rename_i h
      simp only [agreeB, List.all_cons, List.all_nil, Bool.and_true, decide_eq_true_eq, Int.toNat_natCast] at h
      exact (weight_off hv (.inr rfl) (bit y) h).symm

/-! ### A root -/
theorem prodN_swap {f g : Nat → Int} {v : Nat} : ∀ {n : Nat}, v < n → (∀ i, i < n → i ≠ v → f i = g i) → prodN f n * g v = prodN g n * f v
  | n + 1, h, he => by
    rw [prodN, prodN]
    rcases Nat.lt_or_ge v n with h1 | h1
    · have ih := prodN_swap h1 fun i hi hne => he i (by omega) hne
      rw [he n (by omega) (by omega), Int.mul_right_comm, ih, Int.mul_right_comm]
    · have hvn : v = n := by omega
      subst hvn
      rw [prodN_congr (f := f) (g := g) fun i hi => he i (by omega) (by omega), Int.mul_assoc, Int.mul_assoc, Int.mul_comm (f v)]
def rootC (t : List (List Int)) (v : Nat) (x : Int) : Int := if x = 0 then 16 - nth (nth t v) 0 else nth (nth t v) 0
theorem root_sum {p t : List (List Int)} (h1 : netB p t = true) {v : Nat} (hv : v < p.length) (hroot : nth p v = []) {x : Int} (hx : x = 0 ∨ x = 1) (f : List (Int × Int)) :
    refS p t f [((v : Int), x)] * 16 = refS (forceP p v) (forceT p t v x) f [] * rootC t v x := by
  have bit : ∀ y, nth (rowN p.length y) v = 0 ∨ nth (rowN p.length y) v = 1 := fun y => (row_rowN (p := p) (x := y)).bit v hv
  rw [refS, refS, forceP_len, ← sumN_mul, ← sumN_mul]
  refine sumN_congr fun y hy => ?_
  have ha : agreeB (rowN p.length y) [((v : Int), x)] = decide (nth (rowN p.length y) v = x) := by simp [agreeB]
  have hn : agreeB (rowN p.length y) [] = true := rfl
  unfold refT
  rw [forceP_len, ha, hn, Bool.and_true]
  cases agreeB (rowN p.length y) f with
  | false => simp
  | true =>
    simp only [Bool.true_and, decide_eq_true_eq, if_true]
    by_cases he : nth (rowN p.length y) v = x
    · rw [if_pos he]
      have sw := prodN_swap (f := wt p t (rowN p.length y)) (g := wt (forceP p v) (forceT p t v x) (rowN p.length y)) (n := p.length) hv fun i hi hne => by rw [wt_forced hi, if_neg hne]
      have e1 : wt (forceP p v) (forceT p t v x) (rowN p.length y) v = 16 := by
        rw [wt_forced hv, if_pos rfl, he]
        rcases hx with rfl | rfl <;> simp
      have e2 : wt p t (rowN p.length y) v = rootC t v x := by
        simp only [wt, hroot, List.length_nil, caseF, he, rootC]
      rw [e1, e2] at sw
      exact sw
    · rw [if_neg he, weight_off hv hx (bit y) he]; simp
theorem redu_scale {k : Int} (hk : 0 < k) (a b : Int) (hb : 0 < b) : redu (k * a) (k * b) = redu a b := by
  have hg : gcdI (k * a) (k * b) = k * gcdI a b := by
    unfold gcdI
    rw [Int.gcd_mul_left]
    have : ((k.natAbs : Nat) : Int) = k := by omega
    rw [Int.natCast_mul, this]
  have hp := gcdI_pos (a := a) hb
  rw [redu, redu, hg, Int.mul_ediv_mul_of_pos _ _ hk, Int.mul_ediv_mul_of_pos _ _ hk]

end Go.Proofs.Ytpkakapbepkfdaa

set_option linter.unusedVariables false
set_option linter.unusedSimpArgs false
set_option maxRecDepth 10000
namespace Go.Proofs.Ytpkakapbepkfdaa
open Go Go.Am

variable {h h' : Hp} {K : AV → Hp → Prop}

theorem sumB_one {p t : List (List Int)} (h1 : netB p t = true) {w : Nat} (hw : w < p.length) : sumB p t [((w : Int), 1)] = refS p t [((w : Int), 1)] [] := by
  have hf := one_fact (n := p.length) (w := (w : Int)) (by omega) 1 (by decide)
  have hs := sum_ref (p := p) (t := t) (g := []) (f := [((w : Int), 1)]) rfl hf (by rw [clashB, List.any_eq_false]; intro q _; simp [phi])
  simpa using hs
theorem efF_ref {p t : List (List Int)} (h1 : netB p t = true) {v w : Nat} (hv : v < p.length) (hw : w < p.length) {x : Int} (hx : x = 0 ∨ x = 1) : efF p t v x w = redu (refS (forceP p v) (forceT p t v x) [((w : Int), 1)] []) (16 ^ p.length) := by
  have hx' : 0 ≤ x ∧ x ≤ 1 := by omega
  rw [efF, Int.toNat_natCast, sumB_one (force_net h1 hx') (by rw [forceP_len]; exact hw)]
theorem cond_eq {p t : List (List Int)} (h1 : netB p t = true) {v w : Nat} (hv : v < p.length) (hw : w < p.length) (hroot : nth p v = []) {x : Int} (hx : x = 0 ∨ x = 1) :
    chanceR p t [((w : Int), 1)] [((v : Int), x)] = .tup [.agg [I 0, I 0], I 6] ∨ chanceR p t [((w : Int), 1)] [((v : Int), x)] = .tup [efF p t v x w, I 0] := by
  have hx' : 0 ≤ x ∧ x ≤ 1 := by omega
  have hfw := one_fact (n := p.length) (w := (w : Int)) (by omega) 1 (by decide)
  have hfv := one_fact (n := p.length) (w := (v : Int)) (by omega) x hx'
  have N := Net.of h1
  have NF := Net.of (force_net h1 (v := v) hx')
  rw [chance_ref h1, refC, hfw, hfv]
  simp only [Bool.and_self, if_true]
  by_cases hz : refS p t [((v : Int), x)] [] = 0
  · rw [if_pos hz]; exact .inl rfl
  · rw [if_neg hz, efF_ref h1 hv hw hx]
    right
    have a1 := root_sum h1 hv hroot hx [((w : Int), 1)]
    have a2 := root_sum h1 hv hroot hx []
    have hsw : refS p t [] [((v : Int), x)] = refS p t [((v : Int), x)] [] := by
      refine sumN_congr fun y _ => ?_
      unfold refT
      rw [Bool.and_comm]
    have htot : refS (forceP p v) (forceT p t v x) [] [] = 16 ^ p.length := by
      have tw := total_weight NF
      rw [forceP_len] at tw
      rw [← tw, refS, forceP_len]
      refine sumN_congr fun y hy => ?_
      have : agreeB (rowN p.length y) [] = true := rfl
      unfold refT
      rw [forceP_len, this]; rfl
    rw [hsw, htot] at a2
    have hD := pow16_pos p.length
    have b1 := (refS_bounds N [((v : Int), x)] []).1
    have hc : 0 < rootC t v x := by
      have : 0 < 16 ^ p.length * rootC t v x := by rw [← a2]; omega
      rcases Int.lt_or_le 0 (rootC t v x) with h | h
      · exact h
      · have := Int.mul_le_mul_of_nonneg_left h (Int.le_of_lt hD)
        omega
    have e := redu_scale hc (refS (forceP p v) (forceT p t v x) [((w : Int), 1)] []) (16 ^ p.length) hD
    have e2 := redu_scale (k := 16) (by decide) (refS p t [((w : Int), 1)] [((v : Int), x)]) (refS p t [((v : Int), x)] []) (by omega)
    rw [← e2, Int.mul_comm 16, Int.mul_comm 16, a1, a2, Int.mul_comm _ (rootC t v x), Int.mul_comm _ (rootC t v x), e]

set_option maxHeartbeats 4000000 in
theorem f14_con (p t : List (List Int)) (v0 w0 : Int) (hp : okLL p) (ht : okLL t) : Con Try.prog cfgX 14 [.agg [LLI p, LLI t], I v0, I w0] (.bool true) := by
  have ml : maxLen = 9223372036854775807 := by decide
  obtain ⟨_, c30, P, T, h1, hP7, rfl⟩ := f30_con p t hp ht 7 (by decide)
  have N := Net.of h1
  have hn1 := N.n1
  obtain ⟨okp, okt⟩ := okLL_net h1
  have hv := modI_bounds v0 (n := (P.length : Int)) (by omega)
  have hw := modI_bounds w0 (n := (P.length : Int)) (by omega)
  have k31v := fun h h' K => ConW_num (h := h) (h' := h') (K := K) (lift (by decide) (f31_con v0 P.length (by omega))) rfl
  have k31w := fun h h' K => ConW_num (h := h) (h' := h') (K := K) (lift (by decide) (f31_con w0 P.length (by omega))) rfl
  obtain ⟨v, hve⟩ : ∃ v : Nat, modI v0 P.length = (v : Int) := ⟨(modI v0 P.length).toNat, by omega⟩
  obtain ⟨w, hwe⟩ : ∃ w : Nat, modI w0 P.length = (w : Int) := ⟨(modI w0 P.length).toNat, by omega⟩
  rw [hve] at hv k31v
  rw [hwe] at hw k31w
  have hvn : v < P.length := by omega
  have hwn : w < P.length := by omega
  have k30 := fun h h' K => ConW_any (h := h) (h' := h') (K := K) (lift (by decide) c30) rfl
  have hi : ∀ h : Hp, importR h (.agg [LLI P, LLI T]) = (.agg [LLI P, LLI T], h) := fun _ => rfl
  have hvB : inB v 0 (P.length - 1) = true := by simp [inB]; omega
  have hwB : inB w 0 (P.length - 1) = true := by simp [inB]; omega
  have hef : efR P T v w = .tup [efF P T v 0 w, efF P T v 1 w, I 0] := by simp [efR, h1, hvB, hwB]
  have k42 := fun h h' K => ConW_num (h := h) (h' := h') (K := K) (f42_con P T okp okt v w) (by rw [hef]; rfl)
  rw [hef] at k42
  have hex : ∀ y, ∃ a b : Int, efF P T v y w = .agg [I a, I b] := fun y => ⟨_, _, rfl⟩
  obtain ⟨a0, b0', he0⟩ := hex 0
  obtain ⟨a1, b1', he1⟩ := hex 1
  have hD := pow16_pos P.length
  by_cases hvw : v = w
  · subst hvw
    obtain ⟨o1, o2⟩ := own_effect h1 hvn
    have r0 := efF_ref h1 hvn hvn (x := 0) (.inl rfl)
    have r1 := efF_ref h1 hvn hvn (x := 1) (.inr rfl)
    have g0 : gcdI 0 (16 ^ P.length) = 16 ^ P.length := by unfold gcdI; rw [Int.gcd_zero_left]; omega
    have g1 : gcdI (16 ^ P.length) (16 ^ P.length) = 16 ^ P.length := by unfold gcdI; rw [Int.gcd_self]; omega
    rw [o1, redu, g0, Int.zero_ediv, Int.ediv_self (by omega)] at r0
    rw [o2, redu, g1, Int.ediv_self (by omega)] at r1
    rw [r0, r1] at k42
    refine Con_intro Try.func14 rfl okX14 (Nat.le_of_ble_eq_true rfl) rfl ?_
    simp only [Try.f14, Option.getD_some, initSt3]
    simp (disch := first | (simp only [go_sem, Bool.and_self, eq_self]; done) | omega | (simp only [List.length_cons, List.length_nil]; omega)) only [go_sem, ↓reduceIte, Nat.reduceEqDiff, Nat.reduceAdd, Nat.reduceMul, Nat.reduceSub, Int.reduceToNat, Nat.reduceBEq, List.size_toArray, List.length_cons, List.length_nil, Bool.false_and, Bool.true_and, Bool.or_false, Bool.false_or, Bool.and_false, Bool.and_true, k30, k31v, k31w, hi, k42, eq_self, decide_true]
  rw [he0, he1] at k42
  obtain ⟨bs, S, c45⟩ := f45_con P T N v w hvn hwn
  have k45 := fun h h' K => ConW_num (h := h) (h' := h') (K := K) (lift (by decide) c45) rfl
  have hvw' : ¬ (v : Int) = w := by omega
  have hnd : nth bs w = false → a0 = a1 ∧ b0' = b1' := fun hb => by
    have := no_effect h1 hvn hwn hvw S hb
    have r0 := efF_ref h1 hvn hwn (x := 0) (.inl rfl)
    have r1 := efF_ref h1 hvn hwn (x := 1) (.inr rfl)
    rw [this, ← r1, he0, he1] at r0
    injection r0 with r0
    injection r0 with r1 r2
    injection r2 with r2
    injection r1 with _ r1
    injection r2 with _ r2
    exact ⟨r1, r2⟩
  have hcond : nth P v = [] → ∀ x : Nat, x < 2 → (chanceR P T [((w : Int), 1)] [((v : Int), (x : Int))] = .tup [.agg [I 0, I 0], I 6] ∨ chanceR P T [((w : Int), 1)] [((v : Int), (x : Int))] = .tup [efF P T v x w, I 0]) := fun hr x hx => cond_eq h1 hvn hwn hr (by omega)
  have hbw := fun h => bsB_row (P := Try.prog) (h := h) (f := eP) (sz := 2) 46 ((w : Int), 1) (0, 0) isz46 izero46 (by decide)
  have e12 : eP ((w : Int), 1) = [I w, I 1] := rfl
  rw [e12] at hbw
  have hbv := fun (x : Int) h => bsB_row (P := Try.prog) (h := h) (f := eP) (sz := 2) 46 ((v : Int), x) (0, 0) isz46 izero46 (by decide)
  have e13 : ∀ x, eP ((v : Int), x) = [I v, I x] := fun _ => rfl
  simp only [e13] at hbv
  have kch := fun (x : Int) h h' K => ConW_num (h := h) (h' := h') (K := K) (chance_con P T [((w : Int), 1)] [((v : Int), x)] okp okt (by simp [ml]) (by simp [ml])) (chance_scalar _ _ _ _)
  have hxx : ∀ x : Nat, x < 2 → 0 ≤ (x : Int) ∧ (x : Int) ≤ 1 := fun x hx => by omega
  have k41 := fun (x : Int) h h' K => ConW_any (h := h) (h' := h') (K := K) (f41_con P T okp okt v x) (by unfold forR; split <;> rfl)
  have hfor : ∀ x : Int, 0 ≤ x ∧ x ≤ 1 → forR P T v x = .tup [.agg [LLI (forceP P v), LLI (forceT P T v x)], I 0] := fun x hx => by
    have : inB x 0 1 = true := by simp [inB]; omega
    simp [forR, h1, hvB, this]
  have hif : ∀ (h : Hp) (x : Int), importR h (.tup [.agg [LLI (forceP P v), LLI (forceT P T v x)], I 0]) = (.tup [.agg [LLI (forceP P v), LLI (forceT P T v x)], I 0], h) := fun _ _ => rfl
  have kcf : ∀ (x : Int), 0 ≤ x ∧ x ≤ 1 → ∀ h h' K, ConW Try.prog cfgX 23 h (some ([.agg [LLI (forceP P v), LLI (forceT P T v x)], L eP [((w : Int), 1)], .lst []], h')) K = K (.tup [efF P T v x w, I 0]) h := fun x hx h h' K => by
    have fn := force_net h1 (v := v) hx
    have okf := okLL_net fn
    have hr := ref_one fn (w := (w : Int)) (by rw [forceP_len]; omega)
    rw [forceP_len] at hr
    have := ConW_num (h := h) (h' := h') (K := K) (chance_con (forceP P v) (forceT P T v x) [((w : Int), 1)] [] okf.1 okf.2 (by simp [ml]) (by simp)) (chance_scalar _ _ _ _)
    rw [chance_ref fn, hr] at this
    have he : efF P T v x w = redu (sumB (forceP P v) (forceT P T v x) [((w : Int), 1)]) (16 ^ P.length) := by rw [efF, Int.toNat_natCast]
    rw [he]
    exact this
  have fin : ∀ (b : Bool), nth bs w = b → (b = false → a0 = a1 ∧ b0' = b1') → Con Try.prog cfgX 14 [.agg [LLI p, LLI t], I v0, I w0] (.bool true) := by
    intro b hb hab
    rw [hb] at k45
    have hne : (b = false → (decide (a0 = a1) && decide (b0' = b1')) = true) := fun h => by simp [hab h]
    cases b with
    | false =>
      have hd := hne rfl
      refine Con_intro Try.func14 rfl okX14 (Nat.le_of_ble_eq_true rfl) rfl ?_
      simp only [Try.f14, Option.getD_some, initSt3]
      simp (disch := first | (simp only [go_sem, Bool.and_self, eq_self]; done) | omega | (simp only [List.length_cons, List.length_nil]; omega)) only [go_sem, ↓reduceIte, Nat.reduceEqDiff, Nat.reduceAdd, Nat.reduceMul, Nat.reduceSub, Int.reduceToNat, Nat.reduceBEq, List.size_toArray, List.length_cons, List.length_nil, Bool.false_and, Bool.true_and, Bool.or_false, Bool.false_or, Bool.and_false, Bool.and_true, k30, k31v, k31w, hi, k42, hvw', k45, hd]
      refine WP_cut (fun st h => st 6 = .bool false) ?_ ?_
      · refine WP_for 12 2 (fun i st h => st 1 = I v ∧ st 2 = I w ∧ st 6 = .bool false ∧ st 7 = .ptr 1 0 ∧ st 9 = .ptr 2 0 ∧ st 10 = .ptr 3 0 ∧ 4 ≤ h.nx ∧ h.bl 1 = some (.cells false false [LLI P, LLI T]) ∧ h.bl 2 = some (.cells false false [I a0, I b0']) ∧ h.bl 3 = some (.cells false false [I a1, I b1'])) (by simp (disch := first | (simp only [go_sem, Bool.and_self, eq_self]; done) | omega | (simp only [List.length_cons, List.length_nil]; omega)) only [go_sem, ↓reduceIte, Nat.reduceEqDiff, Nat.reduceAdd, Nat.reduceMul, Nat.reduceSub, Int.reduceToNat, Nat.reduceBEq, List.size_toArray, List.length_cons, List.length_nil, Bool.false_and, Bool.true_and, Bool.or_false, Bool.false_or, Bool.and_false, Bool.and_true]) ⟨by simp (disch := first | (simp only [go_sem, Bool.and_self, eq_self]; done) | omega | (simp only [List.length_cons, List.length_nil]; omega)) only [go_sem, ↓reduceIte, Nat.reduceEqDiff, Nat.reduceAdd, Nat.reduceMul, Nat.reduceSub, Int.reduceToNat, Nat.reduceBEq, List.size_toArray, List.length_cons, List.length_nil, Bool.false_and, Bool.true_and, Bool.or_false, Bool.false_or, Bool.and_false, Bool.and_true], by simp (disch := first | (simp only [go_sem, Bool.and_self, eq_self]; done) | omega | (simp only [List.length_cons, List.length_nil]; omega)) only [go_sem, ↓reduceIte, Nat.reduceEqDiff, Nat.reduceAdd, Nat.reduceMul, Nat.reduceSub, Int.reduceToNat, Nat.reduceBEq, List.size_toArray, List.length_cons, List.length_nil, Bool.false_and, Bool.true_and, Bool.or_false, Bool.false_or, Bool.and_false, Bool.and_true], by simp (disch := first | (simp only [go_sem, Bool.and_self, eq_self]; done) | omega | (simp only [List.length_cons, List.length_nil]; omega)) only [go_sem, ↓reduceIte, Nat.reduceEqDiff, Nat.reduceAdd, Nat.reduceMul, Nat.reduceSub, Int.reduceToNat, Nat.reduceBEq, List.size_toArray, List.length_cons, List.length_nil, Bool.false_and, Bool.true_and, Bool.or_false, Bool.false_or, Bool.and_false, Bool.and_true], by simp (disch := first | (simp only [go_sem, Bool.and_self, eq_self]; done) | omega | (simp only [List.length_cons, List.length_nil]; omega)) only [go_sem, ↓reduceIte, Nat.reduceEqDiff, Nat.reduceAdd, Nat.reduceMul, Nat.reduceSub, Int.reduceToNat, Nat.reduceBEq, List.size_toArray, List.length_cons, List.length_nil, Bool.false_and, Bool.true_and, Bool.or_false, Bool.false_or, Bool.and_false, Bool.and_true], by simp (disch := first | (simp only [go_sem, Bool.and_self, eq_self]; done) | omega | (simp only [List.length_cons, List.length_nil]; omega)) only [go_sem, ↓reduceIte, Nat.reduceEqDiff, Nat.reduceAdd, Nat.reduceMul, Nat.reduceSub, Int.reduceToNat, Nat.reduceBEq, List.size_toArray, List.length_cons, List.length_nil, Bool.false_and, Bool.true_and, Bool.or_false, Bool.false_or, Bool.and_false, Bool.and_true], by simp (disch := first | (simp only [go_sem, Bool.and_self, eq_self]; done) | omega | (simp only [List.length_cons, List.length_nil]; omega)) only [go_sem, ↓reduceIte, Nat.reduceEqDiff, Nat.reduceAdd, Nat.reduceMul, Nat.reduceSub, Int.reduceToNat, Nat.reduceBEq, List.size_toArray, List.length_cons, List.length_nil, Bool.false_and, Bool.true_and, Bool.or_false, Bool.false_or, Bool.and_false, Bool.and_true], by simp (disch := first | (simp only [go_sem, Bool.and_self, eq_self]; done) | omega | (simp only [List.length_cons, List.length_nil]; omega)) only [go_sem, ↓reduceIte, Nat.reduceEqDiff, Nat.reduceAdd, Nat.reduceMul, Nat.reduceSub, Int.reduceToNat, Nat.reduceBEq, List.size_toArray, List.length_cons, List.length_nil, Bool.false_and, Bool.true_and, Bool.or_false, Bool.false_or, Bool.and_false, Bool.and_true]; decide, by simp (disch := first | (simp only [go_sem, Bool.and_self, eq_self]; done) | omega | (simp only [List.length_cons, List.length_nil]; omega)) only [go_sem, ↓reduceIte, Nat.reduceEqDiff, Nat.reduceAdd, Nat.reduceMul, Nat.reduceSub, Int.reduceToNat, Nat.reduceBEq, List.size_toArray, List.length_cons, List.length_nil, Bool.false_and, Bool.true_and, Bool.or_false, Bool.false_or, Bool.and_false, Bool.and_true], by simp (disch := first | (simp only [go_sem, Bool.and_self, eq_self]; done) | omega | (simp only [List.length_cons, List.length_nil]; omega)) only [go_sem, ↓reduceIte, Nat.reduceEqDiff, Nat.reduceAdd, Nat.reduceMul, Nat.reduceSub, Int.reduceToNat, Nat.reduceBEq, List.size_toArray, List.length_cons, List.length_nil, Bool.false_and, Bool.true_and, Bool.or_false, Bool.false_or, Bool.and_false, Bool.and_true], by simp (disch := first | (simp only [go_sem, Bool.and_self, eq_self]; done) | omega | (simp only [List.length_cons, List.length_nil]; omega)) only [go_sem, ↓reduceIte, Nat.reduceEqDiff, Nat.reduceAdd, Nat.reduceMul, Nat.reduceSub, Int.reduceToNat, Nat.reduceBEq, List.size_toArray, List.length_cons, List.length_nil, Bool.false_and, Bool.true_and, Bool.or_false, Bool.false_or, Bool.and_false, Bool.and_true]⟩ ?_
        rintro i st h hi12 s12 ⟨s1, s2, s6, s7, s9, s10, hnx, b1, b2, b3⟩
        by_cases hlt : (i : Int) < 2
        case neg =>
          simp (disch := first | (simp only [go_sem, Bool.and_self, eq_self]; done) | omega | (simp only [List.length_cons, List.length_nil]; omega)) only [go_sem, ↓reduceIte, Nat.reduceEqDiff, Nat.reduceAdd, Nat.reduceMul, Nat.reduceSub, Int.reduceToNat, Nat.reduceBEq, List.size_toArray, List.length_cons, List.length_nil, Bool.false_and, Bool.true_and, Bool.or_false, Bool.false_or, Bool.and_false, Bool.and_true, s1, s2, s6, s7, s9, s10, s12, hlt]
        by_cases hl0 : ((nth P v).length : Int) = 0
        case neg =>
          simp (disch := first | (simp only [go_sem, Bool.and_self, eq_self]; done) | omega | (simp only [List.length_cons, List.length_nil]; omega)) only [go_sem, ↓reduceIte, Nat.reduceEqDiff, Nat.reduceAdd, Nat.reduceMul, Nat.reduceSub, Int.reduceToNat, Nat.reduceBEq, List.size_toArray, List.length_cons, List.length_nil, Bool.false_and, Bool.true_and, Bool.or_false, Bool.false_or, Bool.and_false, Bool.and_true, s1, s2, s6, s7, s9, s10, s12, hlt, b1, hvn, hl0]
        have hroot : nth P v = [] := List.eq_nil_of_length_eq_zero (by omega)
        have u1 : ¬ 1 = h.nx := by omega
        have u2 : ¬ 2 = h.nx := by omega
        have u3 : ¬ 3 = h.nx := by omega
        have u4 : ¬ h.nx = 0 := by omega
        have u5 : ¬ h.nx = 1 := by omega
        have u6 : ¬ h.nx = 2 := by omega
        have u7 : ¬ 0 = h.nx := by omega
        have u8 : ¬ h.nx = h.nx + 1 + 1 := by omega
        have u9 : ¬ h.nx = h.nx + 1 := by omega
        have u10 : ¬ h.nx + 1 = h.nx + 1 + 1 := by omega
        have n60 : ¬ (6 : Int) = 0 := by decide
        have n01 : ¬ (0 : Int) = 1 := by decide
        have n10 : ¬ (1 : Int) = 0 := by decide
        have hlen := hl0
        rw [hroot] at hlen
        have hii : i = 0 ∨ i = 1 := by omega
        rcases hii with rfl | rfl
        · change st 12 = I 0 at s12
          have l02 : (0 : Int) < 2 := by decide
          have c1 := kch 0
          have c2 := k41 0
          rw [hfor 0 (by decide)] at c2
          have c3 := kcf 0 (by decide)
          rw [he0] at c3
          have hc := hcond hroot 0 (by decide)
          change chanceR P T [((w : Int), 1)] [((v : Int), 0)] = _ ∨ chanceR P T [((w : Int), 1)] [((v : Int), 0)] = .tup [efF P T v 0 w, I 0] at hc
          rw [he0] at hc
          have e2 := hbv 0
          rcases hc with hc | hc
          · rw [hc] at c1
            simp (disch := first | (simp only [go_sem, Bool.and_self, eq_self]; done) | omega | (simp only [List.length_cons, List.length_nil]; omega)) only [go_sem, ↓reduceIte, Nat.reduceEqDiff, Nat.reduceAdd, Nat.reduceMul, Nat.reduceSub, Int.reduceToNat, Nat.reduceBEq, List.size_toArray, List.length_cons, List.length_nil, Bool.false_and, Bool.true_and, Bool.or_false, Bool.false_or, Bool.and_false, Bool.and_true, s1, s2, s6, s7, s9, s10, s12, l02, b1, b2, b3, hvn, hl0, hbw, e2, c1, c2, c3, hif, u1, u2, u3, u4, u5, u6, u7, u8, u9, u10, n60, n01, n10, eq_self, decide_true]
            rw [ForK_normal]
            exact ⟨by omega, by simp (disch := first | (simp only [go_sem, Bool.and_self, eq_self]; done) | omega | (simp only [List.length_cons, List.length_nil]; omega)) only [go_sem, ↓reduceIte, Nat.reduceEqDiff, Nat.reduceAdd, Nat.reduceMul, Nat.reduceSub, Int.reduceToNat, Nat.reduceBEq, List.size_toArray, List.length_cons, List.length_nil, Bool.false_and, Bool.true_and, Bool.or_false, Bool.false_or, Bool.and_false, Bool.and_true, s12]; rfl, by simp (disch := first | (simp only [go_sem, Bool.and_self, eq_self]; done) | omega | (simp only [List.length_cons, List.length_nil]; omega)) only [go_sem, ↓reduceIte, Nat.reduceEqDiff, Nat.reduceAdd, Nat.reduceMul, Nat.reduceSub, Int.reduceToNat, Nat.reduceBEq, List.size_toArray, List.length_cons, List.length_nil, Bool.false_and, Bool.true_and, Bool.or_false, Bool.false_or, Bool.and_false, Bool.and_true, s1], by simp (disch := first | (simp only [go_sem, Bool.and_self, eq_self]; done) | omega | (simp only [List.length_cons, List.length_nil]; omega)) only [go_sem, ↓reduceIte, Nat.reduceEqDiff, Nat.reduceAdd, Nat.reduceMul, Nat.reduceSub, Int.reduceToNat, Nat.reduceBEq, List.size_toArray, List.length_cons, List.length_nil, Bool.false_and, Bool.true_and, Bool.or_false, Bool.false_or, Bool.and_false, Bool.and_true, s2], by simp (disch := first | (simp only [go_sem, Bool.and_self, eq_self]; done) | omega | (simp only [List.length_cons, List.length_nil]; omega)) only [go_sem, ↓reduceIte, Nat.reduceEqDiff, Nat.reduceAdd, Nat.reduceMul, Nat.reduceSub, Int.reduceToNat, Nat.reduceBEq, List.size_toArray, List.length_cons, List.length_nil, Bool.false_and, Bool.true_and, Bool.or_false, Bool.false_or, Bool.and_false, Bool.and_true, s6], by simp (disch := first | (simp only [go_sem, Bool.and_self, eq_self]; done) | omega | (simp only [List.length_cons, List.length_nil]; omega)) only [go_sem, ↓reduceIte, Nat.reduceEqDiff, Nat.reduceAdd, Nat.reduceMul, Nat.reduceSub, Int.reduceToNat, Nat.reduceBEq, List.size_toArray, List.length_cons, List.length_nil, Bool.false_and, Bool.true_and, Bool.or_false, Bool.false_or, Bool.and_false, Bool.and_true, s7], by simp (disch := first | (simp only [go_sem, Bool.and_self, eq_self]; done) | omega | (simp only [List.length_cons, List.length_nil]; omega)) only [go_sem, ↓reduceIte, Nat.reduceEqDiff, Nat.reduceAdd, Nat.reduceMul, Nat.reduceSub, Int.reduceToNat, Nat.reduceBEq, List.size_toArray, List.length_cons, List.length_nil, Bool.false_and, Bool.true_and, Bool.or_false, Bool.false_or, Bool.and_false, Bool.and_true, s9], by simp (disch := first | (simp only [go_sem, Bool.and_self, eq_self]; done) | omega | (simp only [List.length_cons, List.length_nil]; omega)) only [go_sem, ↓reduceIte, Nat.reduceEqDiff, Nat.reduceAdd, Nat.reduceMul, Nat.reduceSub, Int.reduceToNat, Nat.reduceBEq, List.size_toArray, List.length_cons, List.length_nil, Bool.false_and, Bool.true_and, Bool.or_false, Bool.false_or, Bool.and_false, Bool.and_true, s10], by simp (disch := first | (simp only [go_sem, Bool.and_self, eq_self]; done) | omega | (simp only [List.length_cons, List.length_nil]; omega)) only [go_sem, ↓reduceIte, Nat.reduceEqDiff, Nat.reduceAdd, Nat.reduceMul, Nat.reduceSub, Int.reduceToNat, Nat.reduceBEq, List.size_toArray, List.length_cons, List.length_nil, Bool.false_and, Bool.true_and, Bool.or_false, Bool.false_or, Bool.and_false, Bool.and_true]; omega, by simp (disch := first | (simp only [go_sem, Bool.and_self, eq_self]; done) | omega | (simp only [List.length_cons, List.length_nil]; omega)) only [go_sem, ↓reduceIte, Nat.reduceEqDiff, Nat.reduceAdd, Nat.reduceMul, Nat.reduceSub, Int.reduceToNat, Nat.reduceBEq, List.size_toArray, List.length_cons, List.length_nil, Bool.false_and, Bool.true_and, Bool.or_false, Bool.false_or, Bool.and_false, Bool.and_true, b1, u1, u2, u3, u4, u5, u6, u7], by simp (disch := first | (simp only [go_sem, Bool.and_self, eq_self]; done) | omega | (simp only [List.length_cons, List.length_nil]; omega)) only [go_sem, ↓reduceIte, Nat.reduceEqDiff, Nat.reduceAdd, Nat.reduceMul, Nat.reduceSub, Int.reduceToNat, Nat.reduceBEq, List.size_toArray, List.length_cons, List.length_nil, Bool.false_and, Bool.true_and, Bool.or_false, Bool.false_or, Bool.and_false, Bool.and_true, b2, u1, u2, u3, u4, u5, u6, u7], by simp (disch := first | (simp only [go_sem, Bool.and_self, eq_self]; done) | omega | (simp only [List.length_cons, List.length_nil]; omega)) only [go_sem, ↓reduceIte, Nat.reduceEqDiff, Nat.reduceAdd, Nat.reduceMul, Nat.reduceSub, Int.reduceToNat, Nat.reduceBEq, List.size_toArray, List.length_cons, List.length_nil, Bool.false_and, Bool.true_and, Bool.or_false, Bool.false_or, Bool.and_false, Bool.and_true, b3, u1, u2, u3, u4, u5, u6, u7]⟩
          · rw [hc] at c1
            simp (disch := first | (simp only [go_sem, Bool.and_self, eq_self]; done) | omega | (simp only [List.length_cons, List.length_nil]; omega)) only [go_sem, ↓reduceIte, Nat.reduceEqDiff, Nat.reduceAdd, Nat.reduceMul, Nat.reduceSub, Int.reduceToNat, Nat.reduceBEq, List.size_toArray, List.length_cons, List.length_nil, Bool.false_and, Bool.true_and, Bool.or_false, Bool.false_or, Bool.and_false, Bool.and_true, s1, s2, s6, s7, s9, s10, s12, l02, b1, b2, b3, hvn, hl0, hbw, e2, c1, c2, c3, hif, u1, u2, u3, u4, u5, u6, u7, u8, u9, u10, n60, n01, n10, eq_self, decide_true]
            rw [ForK_normal]
            exact ⟨by omega, by simp (disch := first | (simp only [go_sem, Bool.and_self, eq_self]; done) | omega | (simp only [List.length_cons, List.length_nil]; omega)) only [go_sem, ↓reduceIte, Nat.reduceEqDiff, Nat.reduceAdd, Nat.reduceMul, Nat.reduceSub, Int.reduceToNat, Nat.reduceBEq, List.size_toArray, List.length_cons, List.length_nil, Bool.false_and, Bool.true_and, Bool.or_false, Bool.false_or, Bool.and_false, Bool.and_true, s12]; rfl, by simp (disch := first | (simp only [go_sem, Bool.and_self, eq_self]; done) | omega | (simp only [List.length_cons, List.length_nil]; omega)) only [go_sem, ↓reduceIte, Nat.reduceEqDiff, Nat.reduceAdd, Nat.reduceMul, Nat.reduceSub, Int.reduceToNat, Nat.reduceBEq, List.size_toArray, List.length_cons, List.length_nil, Bool.false_and, Bool.true_and, Bool.or_false, Bool.false_or, Bool.and_false, Bool.and_true, s1], by simp (disch := first | (simp only [go_sem, Bool.and_self, eq_self]; done) | omega | (simp only [List.length_cons, List.length_nil]; omega)) only [go_sem, ↓reduceIte, Nat.reduceEqDiff, Nat.reduceAdd, Nat.reduceMul, Nat.reduceSub, Int.reduceToNat, Nat.reduceBEq, List.size_toArray, List.length_cons, List.length_nil, Bool.false_and, Bool.true_and, Bool.or_false, Bool.false_or, Bool.and_false, Bool.and_true, s2], by simp (disch := first | (simp only [go_sem, Bool.and_self, eq_self]; done) | omega | (simp only [List.length_cons, List.length_nil]; omega)) only [go_sem, ↓reduceIte, Nat.reduceEqDiff, Nat.reduceAdd, Nat.reduceMul, Nat.reduceSub, Int.reduceToNat, Nat.reduceBEq, List.size_toArray, List.length_cons, List.length_nil, Bool.false_and, Bool.true_and, Bool.or_false, Bool.false_or, Bool.and_false, Bool.and_true, s6], by simp (disch := first | (simp only [go_sem, Bool.and_self, eq_self]; done) | omega | (simp only [List.length_cons, List.length_nil]; omega)) only [go_sem, ↓reduceIte, Nat.reduceEqDiff, Nat.reduceAdd, Nat.reduceMul, Nat.reduceSub, Int.reduceToNat, Nat.reduceBEq, List.size_toArray, List.length_cons, List.length_nil, Bool.false_and, Bool.true_and, Bool.or_false, Bool.false_or, Bool.and_false, Bool.and_true, s7], by simp (disch := first | (simp only [go_sem, Bool.and_self, eq_self]; done) | omega | (simp only [List.length_cons, List.length_nil]; omega)) only [go_sem, ↓reduceIte, Nat.reduceEqDiff, Nat.reduceAdd, Nat.reduceMul, Nat.reduceSub, Int.reduceToNat, Nat.reduceBEq, List.size_toArray, List.length_cons, List.length_nil, Bool.false_and, Bool.true_and, Bool.or_false, Bool.false_or, Bool.and_false, Bool.and_true, s9], by simp (disch := first | (simp only [go_sem, Bool.and_self, eq_self]; done) | omega | (simp only [List.length_cons, List.length_nil]; omega)) only [go_sem, ↓reduceIte, Nat.reduceEqDiff, Nat.reduceAdd, Nat.reduceMul, Nat.reduceSub, Int.reduceToNat, Nat.reduceBEq, List.size_toArray, List.length_cons, List.length_nil, Bool.false_and, Bool.true_and, Bool.or_false, Bool.false_or, Bool.and_false, Bool.and_true, s10], by simp (disch := first | (simp only [go_sem, Bool.and_self, eq_self]; done) | omega | (simp only [List.length_cons, List.length_nil]; omega)) only [go_sem, ↓reduceIte, Nat.reduceEqDiff, Nat.reduceAdd, Nat.reduceMul, Nat.reduceSub, Int.reduceToNat, Nat.reduceBEq, List.size_toArray, List.length_cons, List.length_nil, Bool.false_and, Bool.true_and, Bool.or_false, Bool.false_or, Bool.and_false, Bool.and_true]; omega, by simp (disch := first | (simp only [go_sem, Bool.and_self, eq_self]; done) | omega | (simp only [List.length_cons, List.length_nil]; omega)) only [go_sem, ↓reduceIte, Nat.reduceEqDiff, Nat.reduceAdd, Nat.reduceMul, Nat.reduceSub, Int.reduceToNat, Nat.reduceBEq, List.size_toArray, List.length_cons, List.length_nil, Bool.false_and, Bool.true_and, Bool.or_false, Bool.false_or, Bool.and_false, Bool.and_true, b1, u1, u2, u3, u4, u5, u6, u7], by simp (disch := first | (simp only [go_sem, Bool.and_self, eq_self]; done) | omega | (simp only [List.length_cons, List.length_nil]; omega)) only [go_sem, ↓reduceIte, Nat.reduceEqDiff, Nat.reduceAdd, Nat.reduceMul, Nat.reduceSub, Int.reduceToNat, Nat.reduceBEq, List.size_toArray, List.length_cons, List.length_nil, Bool.false_and, Bool.true_and, Bool.or_false, Bool.false_or, Bool.and_false, Bool.and_true, b2, u1, u2, u3, u4, u5, u6, u7], by simp (disch := first | (simp only [go_sem, Bool.and_self, eq_self]; done) | omega | (simp only [List.length_cons, List.length_nil]; omega)) only [go_sem, ↓reduceIte, Nat.reduceEqDiff, Nat.reduceAdd, Nat.reduceMul, Nat.reduceSub, Int.reduceToNat, Nat.reduceBEq, List.size_toArray, List.length_cons, List.length_nil, Bool.false_and, Bool.true_and, Bool.or_false, Bool.false_or, Bool.and_false, Bool.and_true, b3, u1, u2, u3, u4, u5, u6, u7]⟩
        · change st 12 = I 1 at s12
          have l02 : (1 : Int) < 2 := by decide
          have c1 := kch 1
          have c2 := k41 1
          rw [hfor 1 (by decide)] at c2
          have c3 := kcf 1 (by decide)
          rw [he1] at c3
          have hc := hcond hroot 1 (by decide)
          change chanceR P T [((w : Int), 1)] [((v : Int), 1)] = _ ∨ chanceR P T [((w : Int), 1)] [((v : Int), 1)] = .tup [efF P T v 1 w, I 0] at hc
          rw [he1] at hc
          have e2 := hbv 1
          rcases hc with hc | hc
          · rw [hc] at c1
            simp (disch := first | (simp only [go_sem, Bool.and_self, eq_self]; done) | omega | (simp only [List.length_cons, List.length_nil]; omega)) only [go_sem, ↓reduceIte, Nat.reduceEqDiff, Nat.reduceAdd, Nat.reduceMul, Nat.reduceSub, Int.reduceToNat, Nat.reduceBEq, List.size_toArray, List.length_cons, List.length_nil, Bool.false_and, Bool.true_and, Bool.or_false, Bool.false_or, Bool.and_false, Bool.and_true, s1, s2, s6, s7, s9, s10, s12, l02, b1, b2, b3, hvn, hl0, hbw, e2, c1, c2, c3, hif, u1, u2, u3, u4, u5, u6, u7, u8, u9, u10, n60, n01, n10, eq_self, decide_true]
            rw [ForK_normal]
            exact ⟨by omega, by simp (disch := first | (simp only [go_sem, Bool.and_self, eq_self]; done) | omega | (simp only [List.length_cons, List.length_nil]; omega)) only [go_sem, ↓reduceIte, Nat.reduceEqDiff, Nat.reduceAdd, Nat.reduceMul, Nat.reduceSub, Int.reduceToNat, Nat.reduceBEq, List.size_toArray, List.length_cons, List.length_nil, Bool.false_and, Bool.true_and, Bool.or_false, Bool.false_or, Bool.and_false, Bool.and_true, s12]; rfl, by simp (disch := first | (simp only [go_sem, Bool.and_self, eq_self]; done) | omega | (simp only [List.length_cons, List.length_nil]; omega)) only [go_sem, ↓reduceIte, Nat.reduceEqDiff, Nat.reduceAdd, Nat.reduceMul, Nat.reduceSub, Int.reduceToNat, Nat.reduceBEq, List.size_toArray, List.length_cons, List.length_nil, Bool.false_and, Bool.true_and, Bool.or_false, Bool.false_or, Bool.and_false, Bool.and_true, s1], by simp (disch := first | (simp only [go_sem, Bool.and_self, eq_self]; done) | omega | (simp only [List.length_cons, List.length_nil]; omega)) only [go_sem, ↓reduceIte, Nat.reduceEqDiff, Nat.reduceAdd, Nat.reduceMul, Nat.reduceSub, Int.reduceToNat, Nat.reduceBEq, List.size_toArray, List.length_cons, List.length_nil, Bool.false_and, Bool.true_and, Bool.or_false, Bool.false_or, Bool.and_false, Bool.and_true, s2], by simp (disch := first | (simp only [go_sem, Bool.and_self, eq_self]; done) | omega | (simp only [List.length_cons, List.length_nil]; omega)) only [go_sem, ↓reduceIte, Nat.reduceEqDiff, Nat.reduceAdd, Nat.reduceMul, Nat.reduceSub, Int.reduceToNat, Nat.reduceBEq, List.size_toArray, List.length_cons, List.length_nil, Bool.false_and, Bool.true_and, Bool.or_false, Bool.false_or, Bool.and_false, Bool.and_true, s6], by simp (disch := first | (simp only [go_sem, Bool.and_self, eq_self]; done) | omega | (simp only [List.length_cons, List.length_nil]; omega)) only [go_sem, ↓reduceIte, Nat.reduceEqDiff, Nat.reduceAdd, Nat.reduceMul, Nat.reduceSub, Int.reduceToNat, Nat.reduceBEq, List.size_toArray, List.length_cons, List.length_nil, Bool.false_and, Bool.true_and, Bool.or_false, Bool.false_or, Bool.and_false, Bool.and_true, s7], by simp (disch := first | (simp only [go_sem, Bool.and_self, eq_self]; done) | omega | (simp only [List.length_cons, List.length_nil]; omega)) only [go_sem, ↓reduceIte, Nat.reduceEqDiff, Nat.reduceAdd, Nat.reduceMul, Nat.reduceSub, Int.reduceToNat, Nat.reduceBEq, List.size_toArray, List.length_cons, List.length_nil, Bool.false_and, Bool.true_and, Bool.or_false, Bool.false_or, Bool.and_false, Bool.and_true, s9], by simp (disch := first | (simp only [go_sem, Bool.and_self, eq_self]; done) | omega | (simp only [List.length_cons, List.length_nil]; omega)) only [go_sem, ↓reduceIte, Nat.reduceEqDiff, Nat.reduceAdd, Nat.reduceMul, Nat.reduceSub, Int.reduceToNat, Nat.reduceBEq, List.size_toArray, List.length_cons, List.length_nil, Bool.false_and, Bool.true_and, Bool.or_false, Bool.false_or, Bool.and_false, Bool.and_true, s10], by simp (disch := first | (simp only [go_sem, Bool.and_self, eq_self]; done) | omega | (simp only [List.length_cons, List.length_nil]; omega)) only [go_sem, ↓reduceIte, Nat.reduceEqDiff, Nat.reduceAdd, Nat.reduceMul, Nat.reduceSub, Int.reduceToNat, Nat.reduceBEq, List.size_toArray, List.length_cons, List.length_nil, Bool.false_and, Bool.true_and, Bool.or_false, Bool.false_or, Bool.and_false, Bool.and_true]; omega, by simp (disch := first | (simp only [go_sem, Bool.and_self, eq_self]; done) | omega | (simp only [List.length_cons, List.length_nil]; omega)) only [go_sem, ↓reduceIte, Nat.reduceEqDiff, Nat.reduceAdd, Nat.reduceMul, Nat.reduceSub, Int.reduceToNat, Nat.reduceBEq, List.size_toArray, List.length_cons, List.length_nil, Bool.false_and, Bool.true_and, Bool.or_false, Bool.false_or, Bool.and_false, Bool.and_true, b1, u1, u2, u3, u4, u5, u6, u7], by simp (disch := first | (simp only [go_sem, Bool.and_self, eq_self]; done) | omega | (simp only [List.length_cons, List.length_nil]; omega)) only [go_sem, ↓reduceIte, Nat.reduceEqDiff, Nat.reduceAdd, Nat.reduceMul, Nat.reduceSub, Int.reduceToNat, Nat.reduceBEq, List.size_toArray, List.length_cons, List.length_nil, Bool.false_and, Bool.true_and, Bool.or_false, Bool.false_or, Bool.and_false, Bool.and_true, b2, u1, u2, u3, u4, u5, u6, u7], by simp (disch := first | (simp only [go_sem, Bool.and_self, eq_self]; done) | omega | (simp only [List.length_cons, List.length_nil]; omega)) only [go_sem, ↓reduceIte, Nat.reduceEqDiff, Nat.reduceAdd, Nat.reduceMul, Nat.reduceSub, Int.reduceToNat, Nat.reduceBEq, List.size_toArray, List.length_cons, List.length_nil, Bool.false_and, Bool.true_and, Bool.or_false, Bool.false_or, Bool.and_false, Bool.and_true, b3, u1, u2, u3, u4, u5, u6, u7]⟩
          · rw [hc] at c1
            simp (disch := first | (simp only [go_sem, Bool.and_self, eq_self]; done) | omega | (simp only [List.length_cons, List.length_nil]; omega)) only [go_sem, ↓reduceIte, Nat.reduceEqDiff, Nat.reduceAdd, Nat.reduceMul, Nat.reduceSub, Int.reduceToNat, Nat.reduceBEq, List.size_toArray, List.length_cons, List.length_nil, Bool.false_and, Bool.true_and, Bool.or_false, Bool.false_or, Bool.and_false, Bool.and_true, s1, s2, s6, s7, s9, s10, s12, l02, b1, b2, b3, hvn, hl0, hbw, e2, c1, c2, c3, hif, u1, u2, u3, u4, u5, u6, u7, u8, u9, u10, n60, n01, n10, eq_self, decide_true]
            rw [ForK_normal]
            exact ⟨by omega, by simp (disch := first | (simp only [go_sem, Bool.and_self, eq_self]; done) | omega | (simp only [List.length_cons, List.length_nil]; omega)) only [go_sem, ↓reduceIte, Nat.reduceEqDiff, Nat.reduceAdd, Nat.reduceMul, Nat.reduceSub, Int.reduceToNat, Nat.reduceBEq, List.size_toArray, List.length_cons, List.length_nil, Bool.false_and, Bool.true_and, Bool.or_false, Bool.false_or, Bool.and_false, Bool.and_true, s12]; rfl, by simp (disch := first | (simp only [go_sem, Bool.and_self, eq_self]; done) | omega | (simp only [List.length_cons, List.length_nil]; omega)) only [go_sem, ↓reduceIte, Nat.reduceEqDiff, Nat.reduceAdd, Nat.reduceMul, Nat.reduceSub, Int.reduceToNat, Nat.reduceBEq, List.size_toArray, List.length_cons, List.length_nil, Bool.false_and, Bool.true_and, Bool.or_false, Bool.false_or, Bool.and_false, Bool.and_true, s1], by simp (disch := first | (simp only [go_sem, Bool.and_self, eq_self]; done) | omega | (simp only [List.length_cons, List.length_nil]; omega)) only [go_sem, ↓reduceIte, Nat.reduceEqDiff, Nat.reduceAdd, Nat.reduceMul, Nat.reduceSub, Int.reduceToNat, Nat.reduceBEq, List.size_toArray, List.length_cons, List.length_nil, Bool.false_and, Bool.true_and, Bool.or_false, Bool.false_or, Bool.and_false, Bool.and_true, s2], by simp (disch := first | (simp only [go_sem, Bool.and_self, eq_self]; done) | omega | (simp only [List.length_cons, List.length_nil]; omega)) only [go_sem, ↓reduceIte, Nat.reduceEqDiff, Nat.reduceAdd, Nat.reduceMul, Nat.reduceSub, Int.reduceToNat, Nat.reduceBEq, List.size_toArray, List.length_cons, List.length_nil, Bool.false_and, Bool.true_and, Bool.or_false, Bool.false_or, Bool.and_false, Bool.and_true, s6], by simp (disch := first | (simp only [go_sem, Bool.and_self, eq_self]; done) | omega | (simp only [List.length_cons, List.length_nil]; omega)) only [go_sem, ↓reduceIte, Nat.reduceEqDiff, Nat.reduceAdd, Nat.reduceMul, Nat.reduceSub, Int.reduceToNat, Nat.reduceBEq, List.size_toArray, List.length_cons, List.length_nil, Bool.false_and, Bool.true_and, Bool.or_false, Bool.false_or, Bool.and_false, Bool.and_true, s7], by simp (disch := first | (simp only [go_sem, Bool.and_self, eq_self]; done) | omega | (simp only [List.length_cons, List.length_nil]; omega)) only [go_sem, ↓reduceIte, Nat.reduceEqDiff, Nat.reduceAdd, Nat.reduceMul, Nat.reduceSub, Int.reduceToNat, Nat.reduceBEq, List.size_toArray, List.length_cons, List.length_nil, Bool.false_and, Bool.true_and, Bool.or_false, Bool.false_or, Bool.and_false, Bool.and_true, s9], by simp (disch := first | (simp only [go_sem, Bool.and_self, eq_self]; done) | omega | (simp only [List.length_cons, List.length_nil]; omega)) only [go_sem, ↓reduceIte, Nat.reduceEqDiff, Nat.reduceAdd, Nat.reduceMul, Nat.reduceSub, Int.reduceToNat, Nat.reduceBEq, List.size_toArray, List.length_cons, List.length_nil, Bool.false_and, Bool.true_and, Bool.or_false, Bool.false_or, Bool.and_false, Bool.and_true, s10], by simp (disch := first | (simp only [go_sem, Bool.and_self, eq_self]; done) | omega | (simp only [List.length_cons, List.length_nil]; omega)) only [go_sem, ↓reduceIte, Nat.reduceEqDiff, Nat.reduceAdd, Nat.reduceMul, Nat.reduceSub, Int.reduceToNat, Nat.reduceBEq, List.size_toArray, List.length_cons, List.length_nil, Bool.false_and, Bool.true_and, Bool.or_false, Bool.false_or, Bool.and_false, Bool.and_true]; omega, by simp (disch := first | (simp only [go_sem, Bool.and_self, eq_self]; done) | omega | (simp only [List.length_cons, List.length_nil]; omega)) only [go_sem, ↓reduceIte, Nat.reduceEqDiff, Nat.reduceAdd, Nat.reduceMul, Nat.reduceSub, Int.reduceToNat, Nat.reduceBEq, List.size_toArray, List.length_cons, List.length_nil, Bool.false_and, Bool.true_and, Bool.or_false, Bool.false_or, Bool.and_false, Bool.and_true, b1, u1, u2, u3, u4, u5, u6, u7], by simp (disch := first | (simp only [go_sem, Bool.and_self, eq_self]; done) | omega | (simp only [List.length_cons, List.length_nil]; omega)) only [go_sem, ↓reduceIte, Nat.reduceEqDiff, Nat.reduceAdd, Nat.reduceMul, Nat.reduceSub, Int.reduceToNat, Nat.reduceBEq, List.size_toArray, List.length_cons, List.length_nil, Bool.false_and, Bool.true_and, Bool.or_false, Bool.false_or, Bool.and_false, Bool.and_true, b2, u1, u2, u3, u4, u5, u6, u7], by simp (disch := first | (simp only [go_sem, Bool.and_self, eq_self]; done) | omega | (simp only [List.length_cons, List.length_nil]; omega)) only [go_sem, ↓reduceIte, Nat.reduceEqDiff, Nat.reduceAdd, Nat.reduceMul, Nat.reduceSub, Int.reduceToNat, Nat.reduceBEq, List.size_toArray, List.length_cons, List.length_nil, Bool.false_and, Bool.true_and, Bool.or_false, Bool.false_or, Bool.and_false, Bool.and_true, b3, u1, u2, u3, u4, u5, u6, u7]⟩
      · rintro st h s6
        simp (disch := first | (simp only [go_sem, Bool.and_self, eq_self]; done) | omega | (simp only [List.length_cons, List.length_nil]; omega)) only [go_sem, ↓reduceIte, Nat.reduceEqDiff, Nat.reduceAdd, Nat.reduceMul, Nat.reduceSub, Int.reduceToNat, Nat.reduceBEq, List.size_toArray, List.length_cons, List.length_nil, Bool.false_and, Bool.true_and, Bool.or_false, Bool.false_or, Bool.and_false, Bool.and_true, s6]
    | true =>
      refine Con_intro Try.func14 rfl okX14 (Nat.le_of_ble_eq_true rfl) rfl ?_
      simp only [Try.f14, Option.getD_some, initSt3]
      simp (disch := first | (simp only [go_sem, Bool.and_self, eq_self]; done) | omega | (simp only [List.length_cons, List.length_nil]; omega)) only [go_sem, ↓reduceIte, Nat.reduceEqDiff, Nat.reduceAdd, Nat.reduceMul, Nat.reduceSub, Int.reduceToNat, Nat.reduceBEq, List.size_toArray, List.length_cons, List.length_nil, Bool.false_and, Bool.true_and, Bool.or_false, Bool.false_or, Bool.and_false, Bool.and_true, k30, k31v, k31w, hi, k42, hvw', k45]
      refine WP_cut (fun st h => st 6 = .bool false) ?_ ?_
      · refine WP_for 12 2 (fun i st h => st 1 = I v ∧ st 2 = I w ∧ st 6 = .bool false ∧ st 7 = .ptr 1 0 ∧ st 9 = .ptr 2 0 ∧ st 10 = .ptr 3 0 ∧ 4 ≤ h.nx ∧ h.bl 1 = some (.cells false false [LLI P, LLI T]) ∧ h.bl 2 = some (.cells false false [I a0, I b0']) ∧ h.bl 3 = some (.cells false false [I a1, I b1'])) (by simp (disch := first | (simp only [go_sem, Bool.and_self, eq_self]; done) | omega | (simp only [List.length_cons, List.length_nil]; omega)) only [go_sem, ↓reduceIte, Nat.reduceEqDiff, Nat.reduceAdd, Nat.reduceMul, Nat.reduceSub, Int.reduceToNat, Nat.reduceBEq, List.size_toArray, List.length_cons, List.length_nil, Bool.false_and, Bool.true_and, Bool.or_false, Bool.false_or, Bool.and_false, Bool.and_true]) ⟨by simp (disch := first | (simp only [go_sem, Bool.and_self, eq_self]; done) | omega | (simp only [List.length_cons, List.length_nil]; omega)) only [go_sem, ↓reduceIte, Nat.reduceEqDiff, Nat.reduceAdd, Nat.reduceMul, Nat.reduceSub, Int.reduceToNat, Nat.reduceBEq, List.size_toArray, List.length_cons, List.length_nil, Bool.false_and, Bool.true_and, Bool.or_false, Bool.false_or, Bool.and_false, Bool.and_true], by simp (disch := first | (simp only [go_sem, Bool.and_self, eq_self]; done) | omega | (simp only [List.length_cons, List.length_nil]; omega)) only [go_sem, ↓reduceIte, Nat.reduceEqDiff, Nat.reduceAdd, Nat.reduceMul, Nat.reduceSub, Int.reduceToNat, Nat.reduceBEq, List.size_toArray, List.length_cons, List.length_nil, Bool.false_and, Bool.true_and, Bool.or_false, Bool.false_or, Bool.and_false, Bool.and_true], by simp (disch := first | (simp only [go_sem, Bool.and_self, eq_self]; done) | omega | (simp only [List.length_cons, List.length_nil]; omega)) only [go_sem, ↓reduceIte, Nat.reduceEqDiff, Nat.reduceAdd, Nat.reduceMul, Nat.reduceSub, Int.reduceToNat, Nat.reduceBEq, List.size_toArray, List.length_cons, List.length_nil, Bool.false_and, Bool.true_and, Bool.or_false, Bool.false_or, Bool.and_false, Bool.and_true], by simp (disch := first | (simp only [go_sem, Bool.and_self, eq_self]; done) | omega | (simp only [List.length_cons, List.length_nil]; omega)) only [go_sem, ↓reduceIte, Nat.reduceEqDiff, Nat.reduceAdd, Nat.reduceMul, Nat.reduceSub, Int.reduceToNat, Nat.reduceBEq, List.size_toArray, List.length_cons, List.length_nil, Bool.false_and, Bool.true_and, Bool.or_false, Bool.false_or, Bool.and_false, Bool.and_true], by simp (disch := first | (simp only [go_sem, Bool.and_self, eq_self]; done) | omega | (simp only [List.length_cons, List.length_nil]; omega)) only [go_sem, ↓reduceIte, Nat.reduceEqDiff, Nat.reduceAdd, Nat.reduceMul, Nat.reduceSub, Int.reduceToNat, Nat.reduceBEq, List.size_toArray, List.length_cons, List.length_nil, Bool.false_and, Bool.true_and, Bool.or_false, Bool.false_or, Bool.and_false, Bool.and_true], by simp (disch := first | (simp only [go_sem, Bool.and_self, eq_self]; done) | omega | (simp only [List.length_cons, List.length_nil]; omega)) only [go_sem, ↓reduceIte, Nat.reduceEqDiff, Nat.reduceAdd, Nat.reduceMul, Nat.reduceSub, Int.reduceToNat, Nat.reduceBEq, List.size_toArray, List.length_cons, List.length_nil, Bool.false_and, Bool.true_and, Bool.or_false, Bool.false_or, Bool.and_false, Bool.and_true], by simp (disch := first | (simp only [go_sem, Bool.and_self, eq_self]; done) | omega | (simp only [List.length_cons, List.length_nil]; omega)) only [go_sem, ↓reduceIte, Nat.reduceEqDiff, Nat.reduceAdd, Nat.reduceMul, Nat.reduceSub, Int.reduceToNat, Nat.reduceBEq, List.size_toArray, List.length_cons, List.length_nil, Bool.false_and, Bool.true_and, Bool.or_false, Bool.false_or, Bool.and_false, Bool.and_true]; decide, by simp (disch := first | (simp only [go_sem, Bool.and_self, eq_self]; done) | omega | (simp only [List.length_cons, List.length_nil]; omega)) only [go_sem, ↓reduceIte, Nat.reduceEqDiff, Nat.reduceAdd, Nat.reduceMul, Nat.reduceSub, Int.reduceToNat, Nat.reduceBEq, List.size_toArray, List.length_cons, List.length_nil, Bool.false_and, Bool.true_and, Bool.or_false, Bool.false_or, Bool.and_false, Bool.and_true], by simp (disch := first | (simp only [go_sem, Bool.and_self, eq_self]; done) | omega | (simp only [List.length_cons, List.length_nil]; omega)) only [go_sem, ↓reduceIte, Nat.reduceEqDiff, Nat.reduceAdd, Nat.reduceMul, Nat.reduceSub, Int.reduceToNat, Nat.reduceBEq, List.size_toArray, List.length_cons, List.length_nil, Bool.false_and, Bool.true_and, Bool.or_false, Bool.false_or, Bool.and_false, Bool.and_true], by simp (disch := first | (simp only [go_sem, Bool.and_self, eq_self]; done) | omega | (simp only [List.length_cons, List.length_nil]; omega)) only [go_sem, ↓reduceIte, Nat.reduceEqDiff, Nat.reduceAdd, Nat.reduceMul, Nat.reduceSub, Int.reduceToNat, Nat.reduceBEq, List.size_toArray, List.length_cons, List.length_nil, Bool.false_and, Bool.true_and, Bool.or_false, Bool.false_or, Bool.and_false, Bool.and_true]⟩ ?_
        rintro i st h hi12 s12 ⟨s1, s2, s6, s7, s9, s10, hnx, b1, b2, b3⟩
        by_cases hlt : (i : Int) < 2
        case neg =>
          simp (disch := first | (simp only [go_sem, Bool.and_self, eq_self]; done) | omega | (simp only [List.length_cons, List.length_nil]; omega)) only [go_sem, ↓reduceIte, Nat.reduceEqDiff, Nat.reduceAdd, Nat.reduceMul, Nat.reduceSub, Int.reduceToNat, Nat.reduceBEq, List.size_toArray, List.length_cons, List.length_nil, Bool.false_and, Bool.true_and, Bool.or_false, Bool.false_or, Bool.and_false, Bool.and_true, s1, s2, s6, s7, s9, s10, s12, hlt]
        by_cases hl0 : ((nth P v).length : Int) = 0
        case neg =>
          simp (disch := first | (simp only [go_sem, Bool.and_self, eq_self]; done) | omega | (simp only [List.length_cons, List.length_nil]; omega)) only [go_sem, ↓reduceIte, Nat.reduceEqDiff, Nat.reduceAdd, Nat.reduceMul, Nat.reduceSub, Int.reduceToNat, Nat.reduceBEq, List.size_toArray, List.length_cons, List.length_nil, Bool.false_and, Bool.true_and, Bool.or_false, Bool.false_or, Bool.and_false, Bool.and_true, s1, s2, s6, s7, s9, s10, s12, hlt, b1, hvn, hl0]
        have hroot : nth P v = [] := List.eq_nil_of_length_eq_zero (by omega)
        have u1 : ¬ 1 = h.nx := by omega
        have u2 : ¬ 2 = h.nx := by omega
        have u3 : ¬ 3 = h.nx := by omega
        have u4 : ¬ h.nx = 0 := by omega
        have u5 : ¬ h.nx = 1 := by omega
        have u6 : ¬ h.nx = 2 := by omega
        have u7 : ¬ 0 = h.nx := by omega
        have u8 : ¬ h.nx = h.nx + 1 + 1 := by omega
        have u9 : ¬ h.nx = h.nx + 1 := by omega
        have u10 : ¬ h.nx + 1 = h.nx + 1 + 1 := by omega
        have n60 : ¬ (6 : Int) = 0 := by decide
        have n01 : ¬ (0 : Int) = 1 := by decide
        have n10 : ¬ (1 : Int) = 0 := by decide
        have hlen := hl0
        rw [hroot] at hlen
        have hii : i = 0 ∨ i = 1 := by omega
        rcases hii with rfl | rfl
        · change st 12 = I 0 at s12
          have l02 : (0 : Int) < 2 := by decide
          have c1 := kch 0
          have c2 := k41 0
          rw [hfor 0 (by decide)] at c2
          have c3 := kcf 0 (by decide)
          rw [he0] at c3
          have hc := hcond hroot 0 (by decide)
          change chanceR P T [((w : Int), 1)] [((v : Int), 0)] = _ ∨ chanceR P T [((w : Int), 1)] [((v : Int), 0)] = .tup [efF P T v 0 w, I 0] at hc
          rw [he0] at hc
          have e2 := hbv 0
          rcases hc with hc | hc
          · rw [hc] at c1
            simp (disch := first | (simp only [go_sem, Bool.and_self, eq_self]; done) | omega | (simp only [List.length_cons, List.length_nil]; omega)) only [go_sem, ↓reduceIte, Nat.reduceEqDiff, Nat.reduceAdd, Nat.reduceMul, Nat.reduceSub, Int.reduceToNat, Nat.reduceBEq, List.size_toArray, List.length_cons, List.length_nil, Bool.false_and, Bool.true_and, Bool.or_false, Bool.false_or, Bool.and_false, Bool.and_true, s1, s2, s6, s7, s9, s10, s12, l02, b1, b2, b3, hvn, hl0, hbw, e2, c1, c2, c3, hif, u1, u2, u3, u4, u5, u6, u7, u8, u9, u10, n60, n01, n10, eq_self, decide_true]
            rw [ForK_normal]
            exact ⟨by omega, by simp (disch := first | (simp only [go_sem, Bool.and_self, eq_self]; done) | omega | (simp only [List.length_cons, List.length_nil]; omega)) only [go_sem, ↓reduceIte, Nat.reduceEqDiff, Nat.reduceAdd, Nat.reduceMul, Nat.reduceSub, Int.reduceToNat, Nat.reduceBEq, List.size_toArray, List.length_cons, List.length_nil, Bool.false_and, Bool.true_and, Bool.or_false, Bool.false_or, Bool.and_false, Bool.and_true, s12]; rfl, by simp (disch := first | (simp only [go_sem, Bool.and_self, eq_self]; done) | omega | (simp only [List.length_cons, List.length_nil]; omega)) only [go_sem, ↓reduceIte, Nat.reduceEqDiff, Nat.reduceAdd, Nat.reduceMul, Nat.reduceSub, Int.reduceToNat, Nat.reduceBEq, List.size_toArray, List.length_cons, List.length_nil, Bool.false_and, Bool.true_and, Bool.or_false, Bool.false_or, Bool.and_false, Bool.and_true, s1], by simp (disch := first | (simp only [go_sem, Bool.and_self, eq_self]; done) | omega | (simp only [List.length_cons, List.length_nil]; omega)) only [go_sem, ↓reduceIte, Nat.reduceEqDiff, Nat.reduceAdd, Nat.reduceMul, Nat.reduceSub, Int.reduceToNat, Nat.reduceBEq, List.size_toArray, List.length_cons, List.length_nil, Bool.false_and, Bool.true_and, Bool.or_false, Bool.false_or, Bool.and_false, Bool.and_true, s2], by simp (disch := first | (simp only [go_sem, Bool.and_self, eq_self]; done) | omega | (simp only [List.length_cons, List.length_nil]; omega)) only [go_sem, ↓reduceIte, Nat.reduceEqDiff, Nat.reduceAdd, Nat.reduceMul, Nat.reduceSub, Int.reduceToNat, Nat.reduceBEq, List.size_toArray, List.length_cons, List.length_nil, Bool.false_and, Bool.true_and, Bool.or_false, Bool.false_or, Bool.and_false, Bool.and_true, s6], by simp (disch := first | (simp only [go_sem, Bool.and_self, eq_self]; done) | omega | (simp only [List.length_cons, List.length_nil]; omega)) only [go_sem, ↓reduceIte, Nat.reduceEqDiff, Nat.reduceAdd, Nat.reduceMul, Nat.reduceSub, Int.reduceToNat, Nat.reduceBEq, List.size_toArray, List.length_cons, List.length_nil, Bool.false_and, Bool.true_and, Bool.or_false, Bool.false_or, Bool.and_false, Bool.and_true, s7], by simp (disch := first | (simp only [go_sem, Bool.and_self, eq_self]; done) | omega | (simp only [List.length_cons, List.length_nil]; omega)) only [go_sem, ↓reduceIte, Nat.reduceEqDiff, Nat.reduceAdd, Nat.reduceMul, Nat.reduceSub, Int.reduceToNat, Nat.reduceBEq, List.size_toArray, List.length_cons, List.length_nil, Bool.false_and, Bool.true_and, Bool.or_false, Bool.false_or, Bool.and_false, Bool.and_true, s9], by simp (disch := first | (simp only [go_sem, Bool.and_self, eq_self]; done) | omega | (simp only [List.length_cons, List.length_nil]; omega)) only [go_sem, ↓reduceIte, Nat.reduceEqDiff, Nat.reduceAdd, Nat.reduceMul, Nat.reduceSub, Int.reduceToNat, Nat.reduceBEq, List.size_toArray, List.length_cons, List.length_nil, Bool.false_and, Bool.true_and, Bool.or_false, Bool.false_or, Bool.and_false, Bool.and_true, s10], by simp (disch := first | (simp only [go_sem, Bool.and_self, eq_self]; done) | omega | (simp only [List.length_cons, List.length_nil]; omega)) only [go_sem, ↓reduceIte, Nat.reduceEqDiff, Nat.reduceAdd, Nat.reduceMul, Nat.reduceSub, Int.reduceToNat, Nat.reduceBEq, List.size_toArray, List.length_cons, List.length_nil, Bool.false_and, Bool.true_and, Bool.or_false, Bool.false_or, Bool.and_false, Bool.and_true]; omega, by simp (disch := first | (simp only [go_sem, Bool.and_self, eq_self]; done) | omega | (simp only [List.length_cons, List.length_nil]; omega)) only [go_sem, ↓reduceIte, Nat.reduceEqDiff, Nat.reduceAdd, Nat.reduceMul, Nat.reduceSub, Int.reduceToNat, Nat.reduceBEq, List.size_toArray, List.length_cons, List.length_nil, Bool.false_and, Bool.true_and, Bool.or_false, Bool.false_or, Bool.and_false, Bool.and_true, b1, u1, u2, u3, u4, u5, u6, u7], by simp (disch := first | (simp only [go_sem, Bool.and_self, eq_self]; done) | omega | (simp only [List.length_cons, List.length_nil]; omega)) only [go_sem, ↓reduceIte, Nat.reduceEqDiff, Nat.reduceAdd, Nat.reduceMul, Nat.reduceSub, Int.reduceToNat, Nat.reduceBEq, List.size_toArray, List.length_cons, List.length_nil, Bool.false_and, Bool.true_and, Bool.or_false, Bool.false_or, Bool.and_false, Bool.and_true, b2, u1, u2, u3, u4, u5, u6, u7], by simp (disch := first | (simp only [go_sem, Bool.and_self, eq_self]; done) | omega | (simp only [List.length_cons, List.length_nil]; omega)) only [go_sem, ↓reduceIte, Nat.reduceEqDiff, Nat.reduceAdd, Nat.reduceMul, Nat.reduceSub, Int.reduceToNat, Nat.reduceBEq, List.size_toArray, List.length_cons, List.length_nil, Bool.false_and, Bool.true_and, Bool.or_false, Bool.false_or, Bool.and_false, Bool.and_true, b3, u1, u2, u3, u4, u5, u6, u7]⟩
          · rw [hc] at c1
            simp (disch := first | (simp only [go_sem, Bool.and_self, eq_self]; done) | omega | (simp only [List.length_cons, List.length_nil]; omega)) only [go_sem, ↓reduceIte, Nat.reduceEqDiff, Nat.reduceAdd, Nat.reduceMul, Nat.reduceSub, Int.reduceToNat, Nat.reduceBEq, List.size_toArray, List.length_cons, List.length_nil, Bool.false_and, Bool.true_and, Bool.or_false, Bool.false_or, Bool.and_false, Bool.and_true, s1, s2, s6, s7, s9, s10, s12, l02, b1, b2, b3, hvn, hl0, hbw, e2, c1, c2, c3, hif, u1, u2, u3, u4, u5, u6, u7, u8, u9, u10, n60, n01, n10, eq_self, decide_true]
            rw [ForK_normal]
            exact ⟨by omega, by simp (disch := first | (simp only [go_sem, Bool.and_self, eq_self]; done) | omega | (simp only [List.length_cons, List.length_nil]; omega)) only [go_sem, ↓reduceIte, Nat.reduceEqDiff, Nat.reduceAdd, Nat.reduceMul, Nat.reduceSub, Int.reduceToNat, Nat.reduceBEq, List.size_toArray, List.length_cons, List.length_nil, Bool.false_and, Bool.true_and, Bool.or_false, Bool.false_or, Bool.and_false, Bool.and_true, s12]; rfl, by simp (disch := first | (simp only [go_sem, Bool.and_self, eq_self]; done) | omega | (simp only [List.length_cons, List.length_nil]; omega)) only [go_sem, ↓reduceIte, Nat.reduceEqDiff, Nat.reduceAdd, Nat.reduceMul, Nat.reduceSub, Int.reduceToNat, Nat.reduceBEq, List.size_toArray, List.length_cons, List.length_nil, Bool.false_and, Bool.true_and, Bool.or_false, Bool.false_or, Bool.and_false, Bool.and_true, s1], by simp (disch := first | (simp only [go_sem, Bool.and_self, eq_self]; done) | omega | (simp only [List.length_cons, List.length_nil]; omega)) only [go_sem, ↓reduceIte, Nat.reduceEqDiff, Nat.reduceAdd, Nat.reduceMul, Nat.reduceSub, Int.reduceToNat, Nat.reduceBEq, List.size_toArray, List.length_cons, List.length_nil, Bool.false_and, Bool.true_and, Bool.or_false, Bool.false_or, Bool.and_false, Bool.and_true, s2], by simp (disch := first | (simp only [go_sem, Bool.and_self, eq_self]; done) | omega | (simp only [List.length_cons, List.length_nil]; omega)) only [go_sem, ↓reduceIte, Nat.reduceEqDiff, Nat.reduceAdd, Nat.reduceMul, Nat.reduceSub, Int.reduceToNat, Nat.reduceBEq, List.size_toArray, List.length_cons, List.length_nil, Bool.false_and, Bool.true_and, Bool.or_false, Bool.false_or, Bool.and_false, Bool.and_true, s6], by simp (disch := first | (simp only [go_sem, Bool.and_self, eq_self]; done) | omega | (simp only [List.length_cons, List.length_nil]; omega)) only [go_sem, ↓reduceIte, Nat.reduceEqDiff, Nat.reduceAdd, Nat.reduceMul, Nat.reduceSub, Int.reduceToNat, Nat.reduceBEq, List.size_toArray, List.length_cons, List.length_nil, Bool.false_and, Bool.true_and, Bool.or_false, Bool.false_or, Bool.and_false, Bool.and_true, s7], by simp (disch := first | (simp only [go_sem, Bool.and_self, eq_self]; done) | omega | (simp only [List.length_cons, List.length_nil]; omega)) only [go_sem, ↓reduceIte, Nat.reduceEqDiff, Nat.reduceAdd, Nat.reduceMul, Nat.reduceSub, Int.reduceToNat, Nat.reduceBEq, List.size_toArray, List.length_cons, List.length_nil, Bool.false_and, Bool.true_and, Bool.or_false, Bool.false_or, Bool.and_false, Bool.and_true, s9], by simp (disch := first | (simp only [go_sem, Bool.and_self, eq_self]; done) | omega | (simp only [List.length_cons, List.length_nil]; omega)) only [go_sem, ↓reduceIte, Nat.reduceEqDiff, Nat.reduceAdd, Nat.reduceMul, Nat.reduceSub, Int.reduceToNat, Nat.reduceBEq, List.size_toArray, List.length_cons, List.length_nil, Bool.false_and, Bool.true_and, Bool.or_false, Bool.false_or, Bool.and_false, Bool.and_true, s10], by simp (disch := first | (simp only [go_sem, Bool.and_self, eq_self]; done) | omega | (simp only [List.length_cons, List.length_nil]; omega)) only [go_sem, ↓reduceIte, Nat.reduceEqDiff, Nat.reduceAdd, Nat.reduceMul, Nat.reduceSub, Int.reduceToNat, Nat.reduceBEq, List.size_toArray, List.length_cons, List.length_nil, Bool.false_and, Bool.true_and, Bool.or_false, Bool.false_or, Bool.and_false, Bool.and_true]; omega, by simp (disch := first | (simp only [go_sem, Bool.and_self, eq_self]; done) | omega | (simp only [List.length_cons, List.length_nil]; omega)) only [go_sem, ↓reduceIte, Nat.reduceEqDiff, Nat.reduceAdd, Nat.reduceMul, Nat.reduceSub, Int.reduceToNat, Nat.reduceBEq, List.size_toArray, List.length_cons, List.length_nil, Bool.false_and, Bool.true_and, Bool.or_false, Bool.false_or, Bool.and_false, Bool.and_true, b1, u1, u2, u3, u4, u5, u6, u7], by simp (disch := first | (simp only [go_sem, Bool.and_self, eq_self]; done) | omega | (simp only [List.length_cons, List.length_nil]; omega)) only [go_sem, ↓reduceIte, Nat.reduceEqDiff, Nat.reduceAdd, Nat.reduceMul, Nat.reduceSub, Int.reduceToNat, Nat.reduceBEq, List.size_toArray, List.length_cons, List.length_nil, Bool.false_and, Bool.true_and, Bool.or_false, Bool.false_or, Bool.and_false, Bool.and_true, b2, u1, u2, u3, u4, u5, u6, u7], by simp (disch := first | (simp only [go_sem, Bool.and_self, eq_self]; done) | omega | (simp only [List.length_cons, List.length_nil]; omega)) only [go_sem, ↓reduceIte, Nat.reduceEqDiff, Nat.reduceAdd, Nat.reduceMul, Nat.reduceSub, Int.reduceToNat, Nat.reduceBEq, List.size_toArray, List.length_cons, List.length_nil, Bool.false_and, Bool.true_and, Bool.or_false, Bool.false_or, Bool.and_false, Bool.and_true, b3, u1, u2, u3, u4, u5, u6, u7]⟩
        · change st 12 = I 1 at s12
          have l02 : (1 : Int) < 2 := by decide
          have c1 := kch 1
          have c2 := k41 1
          rw [hfor 1 (by decide)] at c2
          have c3 := kcf 1 (by decide)
          rw [he1] at c3
          have hc := hcond hroot 1 (by decide)
          change chanceR P T [((w : Int), 1)] [((v : Int), 1)] = _ ∨ chanceR P T [((w : Int), 1)] [((v : Int), 1)] = .tup [efF P T v 1 w, I 0] at hc
          rw [he1] at hc
          have e2 := hbv 1
          rcases hc with hc | hc
          · rw [hc] at c1
            simp (disch := first | (simp only [go_sem, Bool.and_self, eq_self]; done) | omega | (simp only [List.length_cons, List.length_nil]; omega)) only [go_sem, ↓reduceIte, Nat.reduceEqDiff, Nat.reduceAdd, Nat.reduceMul, Nat.reduceSub, Int.reduceToNat, Nat.reduceBEq, List.size_toArray, List.length_cons, List.length_nil, Bool.false_and, Bool.true_and, Bool.or_false, Bool.false_or, Bool.and_false, Bool.and_true, s1, s2, s6, s7, s9, s10, s12, l02, b1, b2, b3, hvn, hl0, hbw, e2, c1, c2, c3, hif, u1, u2, u3, u4, u5, u6, u7, u8, u9, u10, n60, n01, n10, eq_self, decide_true]
            rw [ForK_normal]
            exact ⟨by omega, by simp (disch := first | (simp only [go_sem, Bool.and_self, eq_self]; done) | omega | (simp only [List.length_cons, List.length_nil]; omega)) only [go_sem, ↓reduceIte, Nat.reduceEqDiff, Nat.reduceAdd, Nat.reduceMul, Nat.reduceSub, Int.reduceToNat, Nat.reduceBEq, List.size_toArray, List.length_cons, List.length_nil, Bool.false_and, Bool.true_and, Bool.or_false, Bool.false_or, Bool.and_false, Bool.and_true, s12]; rfl, by simp (disch := first | (simp only [go_sem, Bool.and_self, eq_self]; done) | omega | (simp only [List.length_cons, List.length_nil]; omega)) only [go_sem, ↓reduceIte, Nat.reduceEqDiff, Nat.reduceAdd, Nat.reduceMul, Nat.reduceSub, Int.reduceToNat, Nat.reduceBEq, List.size_toArray, List.length_cons, List.length_nil, Bool.false_and, Bool.true_and, Bool.or_false, Bool.false_or, Bool.and_false, Bool.and_true, s1], by simp (disch := first | (simp only [go_sem, Bool.and_self, eq_self]; done) | omega | (simp only [List.length_cons, List.length_nil]; omega)) only [go_sem, ↓reduceIte, Nat.reduceEqDiff, Nat.reduceAdd, Nat.reduceMul, Nat.reduceSub, Int.reduceToNat, Nat.reduceBEq, List.size_toArray, List.length_cons, List.length_nil, Bool.false_and, Bool.true_and, Bool.or_false, Bool.false_or, Bool.and_false, Bool.and_true, s2], by simp (disch := first | (simp only [go_sem, Bool.and_self, eq_self]; done) | omega | (simp only [List.length_cons, List.length_nil]; omega)) only [go_sem, ↓reduceIte, Nat.reduceEqDiff, Nat.reduceAdd, Nat.reduceMul, Nat.reduceSub, Int.reduceToNat, Nat.reduceBEq, List.size_toArray, List.length_cons, List.length_nil, Bool.false_and, Bool.true_and, Bool.or_false, Bool.false_or, Bool.and_false, Bool.and_true, s6], by simp (disch := first | (simp only [go_sem, Bool.and_self, eq_self]; done) | omega | (simp only [List.length_cons, List.length_nil]; omega)) only [go_sem, ↓reduceIte, Nat.reduceEqDiff, Nat.reduceAdd, Nat.reduceMul, Nat.reduceSub, Int.reduceToNat, Nat.reduceBEq, List.size_toArray, List.length_cons, List.length_nil, Bool.false_and, Bool.true_and, Bool.or_false, Bool.false_or, Bool.and_false, Bool.and_true, s7], by simp (disch := first | (simp only [go_sem, Bool.and_self, eq_self]; done) | omega | (simp only [List.length_cons, List.length_nil]; omega)) only [go_sem, ↓reduceIte, Nat.reduceEqDiff, Nat.reduceAdd, Nat.reduceMul, Nat.reduceSub, Int.reduceToNat, Nat.reduceBEq, List.size_toArray, List.length_cons, List.length_nil, Bool.false_and, Bool.true_and, Bool.or_false, Bool.false_or, Bool.and_false, Bool.and_true, s9], by simp (disch := first | (simp only [go_sem, Bool.and_self, eq_self]; done) | omega | (simp only [List.length_cons, List.length_nil]; omega)) only [go_sem, ↓reduceIte, Nat.reduceEqDiff, Nat.reduceAdd, Nat.reduceMul, Nat.reduceSub, Int.reduceToNat, Nat.reduceBEq, List.size_toArray, List.length_cons, List.length_nil, Bool.false_and, Bool.true_and, Bool.or_false, Bool.false_or, Bool.and_false, Bool.and_true, s10], by simp (disch := first | (simp only [go_sem, Bool.and_self, eq_self]; done) | omega | (simp only [List.length_cons, List.length_nil]; omega)) only [go_sem, ↓reduceIte, Nat.reduceEqDiff, Nat.reduceAdd, Nat.reduceMul, Nat.reduceSub, Int.reduceToNat, Nat.reduceBEq, List.size_toArray, List.length_cons, List.length_nil, Bool.false_and, Bool.true_and, Bool.or_false, Bool.false_or, Bool.and_false, Bool.and_true]; omega, by simp (disch := first | (simp only [go_sem, Bool.and_self, eq_self]; done) | omega | (simp only [List.length_cons, List.length_nil]; omega)) only [go_sem, ↓reduceIte, Nat.reduceEqDiff, Nat.reduceAdd, Nat.reduceMul, Nat.reduceSub, Int.reduceToNat, Nat.reduceBEq, List.size_toArray, List.length_cons, List.length_nil, Bool.false_and, Bool.true_and, Bool.or_false, Bool.false_or, Bool.and_false, Bool.and_true, b1, u1, u2, u3, u4, u5, u6, u7], by simp (disch := first | (simp only [go_sem, Bool.and_self, eq_self]; done) | omega | (simp only [List.length_cons, List.length_nil]; omega)) only [go_sem, ↓reduceIte, Nat.reduceEqDiff, Nat.reduceAdd, Nat.reduceMul, Nat.reduceSub, Int.reduceToNat, Nat.reduceBEq, List.size_toArray, List.length_cons, List.length_nil, Bool.false_and, Bool.true_and, Bool.or_false, Bool.false_or, Bool.and_false, Bool.and_true, b2, u1, u2, u3, u4, u5, u6, u7], by simp (disch := first | (simp only [go_sem, Bool.and_self, eq_self]; done) | omega | (simp only [List.length_cons, List.length_nil]; omega)) only [go_sem, ↓reduceIte, Nat.reduceEqDiff, Nat.reduceAdd, Nat.reduceMul, Nat.reduceSub, Int.reduceToNat, Nat.reduceBEq, List.size_toArray, List.length_cons, List.length_nil, Bool.false_and, Bool.true_and, Bool.or_false, Bool.false_or, Bool.and_false, Bool.and_true, b3, u1, u2, u3, u4, u5, u6, u7]⟩
          · rw [hc] at c1
            simp (disch := first | (simp only [go_sem, Bool.and_self, eq_self]; done) | omega | (simp only [List.length_cons, List.length_nil]; omega)) only [go_sem, ↓reduceIte, Nat.reduceEqDiff, Nat.reduceAdd, Nat.reduceMul, Nat.reduceSub, Int.reduceToNat, Nat.reduceBEq, List.size_toArray, List.length_cons, List.length_nil, Bool.false_and, Bool.true_and, Bool.or_false, Bool.false_or, Bool.and_false, Bool.and_true, s1, s2, s6, s7, s9, s10, s12, l02, b1, b2, b3, hvn, hl0, hbw, e2, c1, c2, c3, hif, u1, u2, u3, u4, u5, u6, u7, u8, u9, u10, n60, n01, n10, eq_self, decide_true]
            rw [ForK_normal]
            exact ⟨by omega, by simp (disch := first | (simp only [go_sem, Bool.and_self, eq_self]; done) | omega | (simp only [List.length_cons, List.length_nil]; omega)) only [go_sem, ↓reduceIte, Nat.reduceEqDiff, Nat.reduceAdd, Nat.reduceMul, Nat.reduceSub, Int.reduceToNat, Nat.reduceBEq, List.size_toArray, List.length_cons, List.length_nil, Bool.false_and, Bool.true_and, Bool.or_false, Bool.false_or, Bool.and_false, Bool.and_true, s12]; rfl, by simp (disch := first | (simp only [go_sem, Bool.and_self, eq_self]; done) | omega | (simp only [List.length_cons, List.length_nil]; omega)) only [go_sem, ↓reduceIte, Nat.reduceEqDiff, Nat.reduceAdd, Nat.reduceMul, Nat.reduceSub, Int.reduceToNat, Nat.reduceBEq, List.size_toArray, List.length_cons, List.length_nil, Bool.false_and, Bool.true_and, Bool.or_false, Bool.false_or, Bool.and_false, Bool.and_true, s1], by simp (disch := first | (simp only [go_sem, Bool.and_self, eq_self]; done) | omega | (simp only [List.length_cons, List.length_nil]; omega)) only [go_sem, ↓reduceIte, Nat.reduceEqDiff, Nat.reduceAdd, Nat.reduceMul, Nat.reduceSub, Int.reduceToNat, Nat.reduceBEq, List.size_toArray, List.length_cons, List.length_nil, Bool.false_and, Bool.true_and, Bool.or_false, Bool.false_or, Bool.and_false, Bool.and_true, s2], by simp (disch := first | (simp only [go_sem, Bool.and_self, eq_self]; done) | omega | (simp only [List.length_cons, List.length_nil]; omega)) only [go_sem, ↓reduceIte, Nat.reduceEqDiff, Nat.reduceAdd, Nat.reduceMul, Nat.reduceSub, Int.reduceToNat, Nat.reduceBEq, List.size_toArray, List.length_cons, List.length_nil, Bool.false_and, Bool.true_and, Bool.or_false, Bool.false_or, Bool.and_false, Bool.and_true, s6], by simp (disch := first | (simp only [go_sem, Bool.and_self, eq_self]; done) | omega | (simp only [List.length_cons, List.length_nil]; omega)) only [go_sem, ↓reduceIte, Nat.reduceEqDiff, Nat.reduceAdd, Nat.reduceMul, Nat.reduceSub, Int.reduceToNat, Nat.reduceBEq, List.size_toArray, List.length_cons, List.length_nil, Bool.false_and, Bool.true_and, Bool.or_false, Bool.false_or, Bool.and_false, Bool.and_true, s7], by simp (disch := first | (simp only [go_sem, Bool.and_self, eq_self]; done) | omega | (simp only [List.length_cons, List.length_nil]; omega)) only [go_sem, ↓reduceIte, Nat.reduceEqDiff, Nat.reduceAdd, Nat.reduceMul, Nat.reduceSub, Int.reduceToNat, Nat.reduceBEq, List.size_toArray, List.length_cons, List.length_nil, Bool.false_and, Bool.true_and, Bool.or_false, Bool.false_or, Bool.and_false, Bool.and_true, s9], by simp (disch := first | (simp only [go_sem, Bool.and_self, eq_self]; done) | omega | (simp only [List.length_cons, List.length_nil]; omega)) only [go_sem, ↓reduceIte, Nat.reduceEqDiff, Nat.reduceAdd, Nat.reduceMul, Nat.reduceSub, Int.reduceToNat, Nat.reduceBEq, List.size_toArray, List.length_cons, List.length_nil, Bool.false_and, Bool.true_and, Bool.or_false, Bool.false_or, Bool.and_false, Bool.and_true, s10], by simp (disch := first | (simp only [go_sem, Bool.and_self, eq_self]; done) | omega | (simp only [List.length_cons, List.length_nil]; omega)) only [go_sem, ↓reduceIte, Nat.reduceEqDiff, Nat.reduceAdd, Nat.reduceMul, Nat.reduceSub, Int.reduceToNat, Nat.reduceBEq, List.size_toArray, List.length_cons, List.length_nil, Bool.false_and, Bool.true_and, Bool.or_false, Bool.false_or, Bool.and_false, Bool.and_true]; omega, by simp (disch := first | (simp only [go_sem, Bool.and_self, eq_self]; done) | omega | (simp only [List.length_cons, List.length_nil]; omega)) only [go_sem, ↓reduceIte, Nat.reduceEqDiff, Nat.reduceAdd, Nat.reduceMul, Nat.reduceSub, Int.reduceToNat, Nat.reduceBEq, List.size_toArray, List.length_cons, List.length_nil, Bool.false_and, Bool.true_and, Bool.or_false, Bool.false_or, Bool.and_false, Bool.and_true, b1, u1, u2, u3, u4, u5, u6, u7], by simp (disch := first | (simp only [go_sem, Bool.and_self, eq_self]; done) | omega | (simp only [List.length_cons, List.length_nil]; omega)) only [go_sem, ↓reduceIte, Nat.reduceEqDiff, Nat.reduceAdd, Nat.reduceMul, Nat.reduceSub, Int.reduceToNat, Nat.reduceBEq, List.size_toArray, List.length_cons, List.length_nil, Bool.false_and, Bool.true_and, Bool.or_false, Bool.false_or, Bool.and_false, Bool.and_true, b2, u1, u2, u3, u4, u5, u6, u7], by simp (disch := first | (simp only [go_sem, Bool.and_self, eq_self]; done) | omega | (simp only [List.length_cons, List.length_nil]; omega)) only [go_sem, ↓reduceIte, Nat.reduceEqDiff, Nat.reduceAdd, Nat.reduceMul, Nat.reduceSub, Int.reduceToNat, Nat.reduceBEq, List.size_toArray, List.length_cons, List.length_nil, Bool.false_and, Bool.true_and, Bool.or_false, Bool.false_or, Bool.and_false, Bool.and_true, b3, u1, u2, u3, u4, u5, u6, u7]⟩
      · rintro st h s6
        simp (disch := first | (simp only [go_sem, Bool.and_self, eq_self]; done) | omega | (simp only [List.length_cons, List.length_nil]; omega)) only [go_sem, ↓reduceIte, Nat.reduceEqDiff, Nat.reduceAdd, Nat.reduceMul, Nat.reduceSub, Int.reduceToNat, Nat.reduceBEq, List.size_toArray, List.length_cons, List.length_nil, Bool.false_and, Bool.true_and, Bool.or_false, Bool.false_or, Bool.and_false, Bool.and_true, s6]
  exact fin _ rfl hnd

end Go.Proofs.Ytpkakapbepkfdaa
