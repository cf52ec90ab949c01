/-
  LocksPlans and LocksOne, walked.
-/
import Derived.Test.YtkjdnnedncomgaaL5AF
import Derived.Test.YtkjdnnedncomgaaL5S
import Derived.Test.YtkjdnnedncomgaaL5W
set_option linter.unusedVariables false
set_option linter.unusedSimpArgs false
set_option maxRecDepth 10000
namespace Go.Proofs.Ytkjdnnedncomgaa
open Go Go.Am

variable {h h' : Hp} {K : AV → Hp → Prop}

theorem plan_more {a : List (List Int)} (f : Pl a) {d c c' : Nat} (hc : c ≤ c') (h : (planF a d c).isSome = true) : (planF a d c').isSome = true := by
  rw [planF, Option.isSome_map, covF_iff _ _ _ (bad_lt f)] at h ⊢
  obtain ⟨l, h1, h2, h3⟩ := h
  exact ⟨l, h1, by omega, h3⟩
/-- Chambers are enough exactly from the least number on. -/
theorem least_iff {a : List (List Int)} (f : Pl a) {d c : Nat} (hc : 1 ≤ c ∧ c ≤ 4) : (planF a d c).isSome = true ↔ leastN a d 4 ≠ 0 ∧ leastN a d 4 ≤ c := by
  have least : ∀ j, j < 4 → (planF a d (j + 1)).isSome = true → ∃ i, i ≤ j ∧ (∀ j', j' < i → (planF a d (j' + 1)).isSome = false) ∧ (planF a d (i + 1)).isSome = true := by
    intro j
    induction j using Nat.strongRecOn with
    | _ j ih =>
      intro hj h
      by_cases h2 : ∃ j', j' < j ∧ (planF a d (j' + 1)).isSome = true
      · obtain ⟨j', h3, h4⟩ := h2
        obtain ⟨i, h5, h6, h7⟩ := ih j' h3 (by omega) h4
        exact ⟨i, by omega, h6, h7⟩
      · refine ⟨j, Nat.le_refl _, fun j' hj' => ?_, h⟩
        cases hb : (planF a d (j' + 1)).isSome with
        | false => rfl
        | true => exact absurd ⟨j', hj', hb⟩ h2
  constructor
  · intro h
    obtain ⟨i, h1, h2, h3⟩ := least (c - 1) (by omega) (by rw [show c - 1 + 1 = c by omega]; exact h)
    rw [leastN_at h2 h3 4 (by omega)]
    omega
  · rintro ⟨h1, h2⟩
    by_cases h3 : ∃ j, j < 4 ∧ (planF a d (j + 1)).isSome = true
    · obtain ⟨j, h4, h5⟩ := h3
      obtain ⟨i, h6, h7, h8⟩ := least j h4 h5
      rw [leastN_at h7 h8 4 (by omega)] at h2
      exact plan_more f h2 h8
    · exact absurd (leastN_none fun j hj => by
        cases hb : (planF a d (j + 1)).isSome with
        | false => rfl
        | true => exact absurd ⟨j, hj, hb⟩ h3) h1
theorem least_le {a : List (List Int)} {d : Nat} : ∀ n, leastN a d n ≤ n := by
  intro n
  induction n with
  | zero => simp [leastN]
  | succ n ih =>
    rw [leastN]
    split
    · omega
    · split <;> omega

theorem okLL_tableM {a : List (List Int)} (ha : okLL a) : okLL (tableM a) := by
  refine ⟨by simp [tableM]; omega, fun r hr => ?_⟩
  simp only [tableM, List.mem_map] at hr
  obtain ⟨i, _, rfl⟩ := hr
  rw [tableRow, List.length_take]; omega

set_option maxHeartbeats 4000000 in
theorem f5_con (acc : List (List Int)) (c d : Int) (ha : okLL acc) : Con Try.prog cfg 5 [LLI acc, .agg [I c, I d]] (.bool true) := by
  have m1 := fun h h' K => k19 (h := h) (h' := h') (K := K) acc ha
  have ha' := okLL_tableM ha
  generalize tableM acc = a at m1 ha'
  have m2 := fun h h' K => k20 (h := h) (h' := h') (K := K) a ha' c d
  have m3 := fun h h' K => k18 (h := h) (h' := h') (K := K) a ha' d
  have m4 := fun h h' K => k21 (h := h) (h' := h') (K := K) a ha'
  have hlim : ∀ n, 0 < n → lims (some n) 0 = true := fun n hn => by simp [lims, hn]
  refine Con_intro Try.func5 rfl ok5 (Nat.le_of_ble_eq_true rfl) rfl ?_
  simp only [Try.f5, Option.getD_some, initSt2]
  cases ht : taskB a d with
  | false =>
    have g1 : planM a c d = [] := by simp only [planM, ht, Bool.false_and]; rfl
    have g2 : planE a c d = 2 := by simp only [planE, ht, Bool.false_and]; rfl
    have g3 : leastM a d = 0 := by rw [leastM, ht]; rfl
    cases h1 : isPlanB a with
    | false => simp (disch := first | (simp only [go_sem, Bool.and_self, eq_self]; done) | omega | (simp only [List.length_cons, List.length_nil]; omega)) only [go_sem, ↓reduceIte, Nat.reduceEqDiff, Nat.reduceAdd, Nat.reduceMul, Nat.reduceSub, Int.reduceToNat, m1, m2, m3, m4, g1, g2, g3, ht, h1, hlim, List.length_nil, Int.natCast_zero]
    | true =>
    by_cases h2 : d < 1
    · simp (disch := first | (simp only [go_sem, Bool.and_self, eq_self]; done) | omega | (simp only [List.length_cons, List.length_nil]; omega)) only [go_sem, ↓reduceIte, Nat.reduceEqDiff, Nat.reduceAdd, Nat.reduceMul, Nat.reduceSub, Int.reduceToNat, m1, m2, m3, m4, g1, g2, g3, ht, h1, h2, hlim, List.length_nil, Int.natCast_zero]
    by_cases h3 : 4 < d
    · simp (disch := first | (simp only [go_sem, Bool.and_self, eq_self]; done) | omega | (simp only [List.length_cons, List.length_nil]; omega)) only [go_sem, ↓reduceIte, Nat.reduceEqDiff, Nat.reduceAdd, Nat.reduceMul, Nat.reduceSub, Int.reduceToNat, m1, m2, m3, m4, g1, g2, g3, ht, h1, h2, h3, hlim, List.length_nil, Int.natCast_zero]
    rw [taskB, h1, decide_eq_true (by omega)] at ht
    cases ht
  | true =>
    have ht' := ht
    simp only [taskB, Bool.and_eq_true, decide_eq_true_eq] at ht'
    obtain ⟨h1, hd⟩ := ht'
    have f := Pl.of h1
    obtain ⟨dn, rfl⟩ : ∃ dn : Nat, d = dn := ⟨d.toNat, by omega⟩
    have hdn : 1 ≤ dn ∧ dn ≤ 4 := by omega
    have g3 : leastM a dn = (leastN a dn 4 : Int) := by rw [leastM, ht]; rfl
    have m5 := fun h h' K => k22 (h := h) (h' := h') (K := K) f hdn
    rw [← least_ref f hdn 4] at m5
    have h2 : ¬ (dn : Int) < 1 := by omega
    have h3 : ¬ 4 < (dn : Int) := by omega
    have hle := least_le (a := a) (d := dn) 4
    by_cases hc : 1 ≤ c ∧ c ≤ 4
    case neg =>
      have g1 : planM a c dn = [] := by simp only [planM, decide_eq_false hc, Bool.and_false]; rfl
      have g2 : planE a c dn = 2 := by simp only [planE, decide_eq_false hc, Bool.and_false]; rfl
      by_cases hc1 : c < 1
      · simp (disch := first | (simp only [go_sem, Bool.and_self, eq_self]; done) | omega | (simp only [List.length_cons, List.length_nil]; omega)) only [go_sem, ↓reduceIte, Nat.reduceEqDiff, Nat.reduceAdd, Nat.reduceMul, Nat.reduceSub, Int.reduceToNat, m1, m2, m3, m4, m5, g1, g2, g3, ht, h1, h2, h3, hlim, hc1, List.length_nil, Int.natCast_zero]
      · have hc2 : 4 < c := by omega
        simp (disch := first | (simp only [go_sem, Bool.and_self, eq_self]; done) | omega | (simp only [List.length_cons, List.length_nil]; omega)) only [go_sem, ↓reduceIte, Nat.reduceEqDiff, Nat.reduceAdd, Nat.reduceMul, Nat.reduceSub, Int.reduceToNat, m1, m2, m3, m4, m5, g1, g2, g3, ht, h1, h2, h3, hlim, hc1, hc2, List.length_nil, Int.natCast_zero]
    obtain ⟨cn, rfl⟩ : ∃ cn : Nat, c = cn := ⟨c.toNat, by omega⟩
    have hc1 : ¬ (cn : Int) < 1 := by omega
    have hc2 : ¬ 4 < (cn : Int) := by omega
    have hiff := least_iff f (d := dn) (c := cn) (by omega)
    generalize leastN a dn 4 = n at *
    cases hp : planF a dn cn with
    | none =>
      have g1 : planM a cn dn = [] := by simp only [planM, ht, decide_eq_true hc, Bool.and_self, if_true, Int.toNat_natCast, hp]
      have g2 : planE a cn dn = 6 := by simp only [planE, ht, decide_eq_true hc, Bool.and_self, if_true, Int.toNat_natCast, hp, Option.isSome_none]; rfl
      rw [hp] at hiff
      have hno : n = 0 ∨ cn < n := by
        have : ¬ (n ≠ 0 ∧ n ≤ cn) := fun h => by have := hiff.2 h; cases this
        omega
      by_cases hn0 : n = 0
      · subst hn0
        simp (disch := first | (simp only [go_sem, Bool.and_self, eq_self]; done) | omega | (simp only [List.length_cons, List.length_nil]; omega)) only [go_sem, ↓reduceIte, Nat.reduceEqDiff, Nat.reduceAdd, Nat.reduceMul, Nat.reduceSub, Int.reduceToNat, m1, m2, m3, m4, m5, g1, g2, g3, ht, h1, h2, h3, hlim, hc1, hc2, List.length_nil, Int.natCast_zero]
      · have hn0' : ¬ (n : Int) = 0 := by omega
        have hcn : cn < n := by omega
        simp (disch := first | (simp only [go_sem, Bool.and_self, eq_self]; done) | omega | (simp only [List.length_cons, List.length_nil]; omega)) only [go_sem, ↓reduceIte, Nat.reduceEqDiff, Nat.reduceAdd, Nat.reduceMul, Nat.reduceSub, Int.reduceToNat, m1, m2, m3, m4, m5, g1, g2, g3, ht, h1, h2, h3, hlim, hc1, hc2, hn0', hcn, List.length_nil, Int.natCast_zero]
    | some l =>
      have g1 : planM a cn dn = cutsOf a l := by simp only [planM, ht, decide_eq_true hc, Bool.and_self, if_true, Int.toNat_natCast, hp]
      have g2 : planE a cn dn = 0 := by simp only [planE, ht, decide_eq_true hc, Bool.and_self, if_true, Int.toNat_natCast, hp, Option.isSome_some]
      rw [hp] at hiff
      obtain ⟨hn0, hnc⟩ := hiff.1 rfl
      have hn0' : ¬ (n : Int) = 0 := by omega
      have hnc' : ¬ cn < n := by omega
      obtain ⟨q1, q2, q3⟩ := plan_ok f hdn hp
      have ft := cuts_fit f hdn (l := l) (by omega) q2
      have hwr := cuts_right f hdn (l := l) (by omega) q2 q3
      have hk := f.keys
      have hch := ft.cham
      have hs := ft.same
      have hcl : (cutsOf a l).length = a.length := hs
      have hc0 : (nth (cutsOf a l) 0).length = cn := by
        have : nth (cutsOf a l) 0 = l.map fun x => nth x 0 := nth_map_range _ _ _ (by omega)
        rw [this, List.length_map, q1]
      have hcuts : areCutsB (cutsOf a l) a.length dn = true := by
        simp only [areCutsB, Bool.and_eq_true, decide_eq_true_eq]
        refine ⟨⟨⟨by omega, by omega⟩, by omega⟩, all_of_nth fun r hr => ?_⟩
        rw [decide_eq_true (by rw [ft.crow r (by omega)]), Bool.true_and]
        refine all_of_nth fun j hj => ?_
        have := ft.cut r j (by omega) (by rw [ft.crow r (by omega)] at hj; exact hj)
        simpa only [decide_eq_true_eq] using this
      have href : refCutsB (cutsOf a l) a.length dn = true := by
        have := hcuts
        have e : areCutsB (cutsOf a l) a.length dn = (decide (1 ≤ (dn : Int) ∧ (dn : Int) ≤ 4) && refCutsB (cutsOf a l) a.length dn) := by
          simp only [areCutsB, refCutsB, Bool.and_assoc]; rfl
        rw [e, Bool.and_eq_true] at this
        exact this.2
      have hfit : fitB a (cutsOf a l) dn = true := by simp only [fitB, h1, hcuts, Bool.and_self]
      have m6 := fun h h' K => k23 (h := h) (h' := h') (K := K) (cutsOf a l) ft.okC a.length dn (by omega)
      have m7 := fun h h' K => k24 (h := h) (h' := h') (K := K) ft
      have m8 := fun h h' K => k25 (h := h) (h' := h') (K := K) a (cutsOf a l) ha' ft.okC dn
      have hck : checkM a (cutsOf a l) dn = 0 := by simp [checkM, hfit, hwr]
      rw [href] at m6
      rw [hwr] at m7
      rw [hck] at m8
      simp (disch := first | (simp only [go_sem, Bool.and_self, eq_self]; done) | omega | (simp only [List.length_cons, List.length_nil]; omega)) only [go_sem, ↓reduceIte, Nat.reduceEqDiff, Nat.reduceAdd, Nat.reduceMul, Nat.reduceSub, Int.reduceToNat, m1, m2, m3, m4, m5, m6, m7, m8, g1, g2, g3, ht, h1, h2, h3, hlim, hc1, hc2, hn0', hnc', hc0, List.length_nil, Int.natCast_zero]

/-! ### One depth -/
theorem bad_zero {a : List (List Int)} (f : Pl a) (h : ∀ i j k, i < a.length → j < (nth a 0).length → k < a.length → at2 a i j = 1 ∨ at2 a k j = 0) : badM a = 0 := by
  refine Nat.eq_of_testBit_eq fun i => ?_
  rw [bits_at f (bad_bits f), Nat.zero_testBit]
  cases hb : badP a (i / 6) (i % 6) with
  | false => rfl
  | true =>
    simp only [badP, Bool.and_eq_true, decide_eq_true_eq, List.any_eq_true, List.mem_range] at hb
    obtain ⟨⟨⟨h1, h2⟩, h3⟩, o, h4, h5⟩ := hb
    rcases h _ _ _ h1 h2 h4 with h6 | h6
    · omega
    · rw [h5] at h6; cases h6
theorem least_full {a : List (List Int)} (f : Pl a) (h : ∀ i j k, i < a.length → j < (nth a 0).length → k < a.length → at2 a i j = 1 ∨ at2 a k j = 0) (d : Nat) : leastN a d 4 = 1 := by
  have hz := bad_zero f h
  refine leastN_at (i := 0) (fun j hj => by omega) ?_ 4 (by omega)
  rw [planF, hz, covF, if_pos rfl]; rfl
theorem least_not {a : List (List Int)} (f : Pl a) {i j k : Nat} (hi : i < a.length) (hj : j < (nth a 0).length) (hk : k < a.length) (h0 : at2 a i j = 0) (h1 : at2 a k j = 1) : leastN a 1 4 = 0 := by
  have hlo := f.locks
  refine leastN_none fun c _ => ?_
  cases hp : planF a 1 (c + 1) with
  | none => rfl
  | some l =>
    obtain ⟨q1, q2, q3⟩ := plan_ok f (by omega) hp
    have hb : (badM a).testBit (i * 6 + j) = true := by
      rw [bad_bits f i j (by omega)]
      simp only [badP, decide_eq_true hi, decide_eq_true hj, decide_eq_true h0, Bool.true_and]
      exact List.any_eq_true.2 ⟨k, List.mem_range.2 hk, decide_eq_true h1⟩
    obtain ⟨o, h2, h3⟩ := (orL_bit _ _).1 (q3 _ hb)
    obtain ⟨x, hx, rfl⟩ := List.mem_map.1 h2
    rw [blk_bits f x i j (by omega)] at h3
    simp only [blkP, barB, Bool.and_eq_true, Bool.not_eq_true'] at h3
    have : pinB a (col a x) j 0 (nth x i) = true := by
      rw [pinB, List.any_eq_true]
      refine ⟨k, List.mem_range.2 hk, ?_⟩
      rw [col_at hk]
      have d1 := q2 x hx i hi
      have d2 := q2 x hx k hk
      simp only [Bool.and_eq_true, decide_eq_true_eq]
      exact ⟨h1, by omega⟩
    rw [this] at h3; cases h3.2

/-- What came before, key by key. -/
def befP (i j k i' j' k' : Nat) : Prop := i' < i ∨ (i' = i ∧ (j' < j ∨ (j' = j ∧ k' < k)))
set_option maxHeartbeats 4000000 in
theorem f4_con (acc : List (List Int)) (d : Int) (ha : okM acc) (hd : ok64 d) : Con Try.prog cfg 4 [LLI acc, I d] (.bool true) := by
  have hpl := tameM_plan acc (most := 6) (by omega)
  have mk1 := fun h h' K => k11 (h := h) (h' := h') (K := K) acc ha 6 (by omega)
  generalize tameM acc 6 = a at hpl mk1
  have f := Pl.of hpl
  have hk := f.keys
  have hlo := f.locks
  have mk2 := fun h h' K => k18 (h := h) (h' := h') (K := K) a f.okA 1
  have ht1 : taskB a 1 = true := by rw [taskB, hpl]; rfl
  have g1 : leastM a 1 = (leastN a 1 4 : Int) := by rw [leastM, ht1]; rfl
  have hdb := modI_bounds d (n := 4) (by omega)
  have mk3 := fun h h' K => m12 (h := h) (h' := h') (K := K) d 4 hd (by omega) (by omega)
  obtain ⟨dn, hdn⟩ : ∃ dn : Nat, 1 + modI d 4 = (dn : Int) := ⟨(1 + modI d 4).toNat, by omega⟩
  have ht2 : taskB a dn = true := by rw [taskB, hpl, decide_eq_true (by omega)]; rfl
  have g2 : leastM a dn = (leastN a dn 4 : Int) := by rw [leastM, ht2]; rfl
  have mk4 := fun h h' K => k18 (h := h) (h' := h') (K := K) a f.okA dn
  refine Con_intro Try.func4 rfl ok4 (Nat.le_of_ble_eq_true rfl) rfl ?_
  simp only [Try.f4, Option.getD_some, initSt2]
  simp (disch := first | (simp only [go_sem, Bool.and_self, eq_self]; done) | omega | (simp only [List.length_cons, List.length_nil]; omega)) only [go_sem, ↓reduceIte, Nat.reduceEqDiff, Nat.reduceAdd, Nat.reduceMul, Nat.reduceSub, Int.reduceToNat, mk1, mk2, g1, ht1]
  generalize hn : leastN a 1 4 = n at *
  let FP : Nat → Nat → Nat → Bool → Prop := fun i j k F => F = true ↔ ∀ i' j' k', i' < a.length → j' < (nth a 0).length → k' < a.length → befP i j k i' j' k' → at2 a i' j' = 1 ∨ at2 a k' j' = 0
  let EP : Nat → Nat → Nat → Bool → Prop := fun i j k E => E = true ↔ ∀ i' j' k', i' < a.length → j' < (nth a 0).length → k' < a.length → befP i j k i' j' k' → at2 a i' j' = at2 a k' j'
  refine WP_cut (fun st h => st 1 = I d ∧ st 5 = LLI a ∧ st 6 = I n ∧ st 7 = I 0 ∧ ∃ F E : Bool, st 8 = .bool F ∧ st 9 = .bool E ∧ FP a.length 0 0 F ∧ EP a.length 0 0 E) ?_ ?_
  · refine WP_for 10 a.length (fun i st h => st 1 = I d ∧ st 5 = LLI a ∧ st 6 = I n ∧ st 7 = I 0 ∧ ∃ F E : Bool, st 8 = .bool F ∧ st 9 = .bool E ∧ FP i 0 0 F ∧ EP i 0 0 E) (by simp (disch := first | (simp only [go_sem, Bool.and_self, eq_self]; done) | omega | (simp only [List.length_cons, List.length_nil]; omega)) only [go_sem, ↓reduceIte, Nat.reduceEqDiff, Nat.reduceAdd, Nat.reduceMul, Nat.reduceSub, Int.reduceToNat]) ⟨by simp (disch := first | (simp only [go_sem, Bool.and_self, eq_self]; done) | omega | (simp only [List.length_cons, List.length_nil]; omega)) only [go_sem, ↓reduceIte, Nat.reduceEqDiff, Nat.reduceAdd, Nat.reduceMul, Nat.reduceSub, Int.reduceToNat], by simp (disch := first | (simp only [go_sem, Bool.and_self, eq_self]; done) | omega | (simp only [List.length_cons, List.length_nil]; omega)) only [go_sem, ↓reduceIte, Nat.reduceEqDiff, Nat.reduceAdd, Nat.reduceMul, Nat.reduceSub, Int.reduceToNat], by simp (disch := first | (simp only [go_sem, Bool.and_self, eq_self]; done) | omega | (simp only [List.length_cons, List.length_nil]; omega)) only [go_sem, ↓reduceIte, Nat.reduceEqDiff, Nat.reduceAdd, Nat.reduceMul, Nat.reduceSub, Int.reduceToNat], by simp (disch := first | (simp only [go_sem, Bool.and_self, eq_self]; done) | omega | (simp only [List.length_cons, List.length_nil]; omega)) only [go_sem, ↓reduceIte, Nat.reduceEqDiff, Nat.reduceAdd, Nat.reduceMul, Nat.reduceSub, Int.reduceToNat], true, true, by simp (disch := first | (simp only [go_sem, Bool.and_self, eq_self]; done) | omega | (simp only [List.length_cons, List.length_nil]; omega)) only [go_sem, ↓reduceIte, Nat.reduceEqDiff, Nat.reduceAdd, Nat.reduceMul, Nat.reduceSub, Int.reduceToNat], by simp (disch := first | (simp only [go_sem, Bool.and_self, eq_self]; done) | omega | (simp only [List.length_cons, List.length_nil]; omega)) only [go_sem, ↓reduceIte, Nat.reduceEqDiff, Nat.reduceAdd, Nat.reduceMul, Nat.reduceSub, Int.reduceToNat], ?_, ?_⟩ ?_
    · exact ⟨fun _ i' j' k' _ _ _ hb => by unfold befP at hb; omega, fun _ => rfl⟩
    · exact ⟨fun _ i' j' k' _ _ _ hb => by unfold befP at hb; omega, fun _ => rfl⟩
    rintro i st h hi s10 ⟨s1, s5, s6, s7, F, E, s8, s9, hF, hE⟩
    by_cases hia : i < a.length
    case neg =>
      have hie : i = a.length := by omega
      subst hie
      simp (disch := first | (simp only [go_sem, Bool.and_self, eq_self]; done) | omega | (simp only [List.length_cons, List.length_nil]; omega)) only [go_sem, ↓reduceIte, Nat.reduceEqDiff, Nat.reduceAdd, Nat.reduceMul, Nat.reduceSub, Int.reduceToNat, s1, s5, s6, s7, s8, s9, s10, hia]
      exact ⟨F, E, rfl, rfl, hF, hE⟩
    have hrow := f.row i hia
    simp (disch := first | (simp only [go_sem, Bool.and_self, eq_self]; done) | omega | (simp only [List.length_cons, List.length_nil]; omega)) only [go_sem, ↓reduceIte, Nat.reduceEqDiff, Nat.reduceAdd, Nat.reduceMul, Nat.reduceSub, Int.reduceToNat, s1, s5, s6, s7, s8, s9, s10, hia]
    refine WP_for 11 (nth a 0).length (fun j st h => st 1 = I d ∧ st 5 = LLI a ∧ st 6 = I n ∧ st 7 = I 0 ∧ st 10 = I i ∧ ∃ F E : Bool, st 8 = .bool F ∧ st 9 = .bool E ∧ FP i j 0 F ∧ EP i j 0 E) (by simp (disch := first | (simp only [go_sem, Bool.and_self, eq_self]; done) | omega | (simp only [List.length_cons, List.length_nil]; omega)) only [go_sem, ↓reduceIte, Nat.reduceEqDiff, Nat.reduceAdd, Nat.reduceMul, Nat.reduceSub, Int.reduceToNat]) ⟨by simp (disch := first | (simp only [go_sem, Bool.and_self, eq_self]; done) | omega | (simp only [List.length_cons, List.length_nil]; omega)) only [go_sem, ↓reduceIte, Nat.reduceEqDiff, Nat.reduceAdd, Nat.reduceMul, Nat.reduceSub, Int.reduceToNat, s1, s5, s6, s7, s10], by simp (disch := first | (simp only [go_sem, Bool.and_self, eq_self]; done) | omega | (simp only [List.length_cons, List.length_nil]; omega)) only [go_sem, ↓reduceIte, Nat.reduceEqDiff, Nat.reduceAdd, Nat.reduceMul, Nat.reduceSub, Int.reduceToNat, s1, s5, s6, s7, s10], by simp (disch := first | (simp only [go_sem, Bool.and_self, eq_self]; done) | omega | (simp only [List.length_cons, List.length_nil]; omega)) only [go_sem, ↓reduceIte, Nat.reduceEqDiff, Nat.reduceAdd, Nat.reduceMul, Nat.reduceSub, Int.reduceToNat, s1, s5, s6, s7, s10], by simp (disch := first | (simp only [go_sem, Bool.and_self, eq_self]; done) | omega | (simp only [List.length_cons, List.length_nil]; omega)) only [go_sem, ↓reduceIte, Nat.reduceEqDiff, Nat.reduceAdd, Nat.reduceMul, Nat.reduceSub, Int.reduceToNat, s1, s5, s6, s7, s10], by simp (disch := first | (simp only [go_sem, Bool.and_self, eq_self]; done) | omega | (simp only [List.length_cons, List.length_nil]; omega)) only [go_sem, ↓reduceIte, Nat.reduceEqDiff, Nat.reduceAdd, Nat.reduceMul, Nat.reduceSub, Int.reduceToNat, s1, s5, s6, s7, s10], F, E, by simp (disch := first | (simp only [go_sem, Bool.and_self, eq_self]; done) | omega | (simp only [List.length_cons, List.length_nil]; omega)) only [go_sem, ↓reduceIte, Nat.reduceEqDiff, Nat.reduceAdd, Nat.reduceMul, Nat.reduceSub, Int.reduceToNat, s8], by simp (disch := first | (simp only [go_sem, Bool.and_self, eq_self]; done) | omega | (simp only [List.length_cons, List.length_nil]; omega)) only [go_sem, ↓reduceIte, Nat.reduceEqDiff, Nat.reduceAdd, Nat.reduceMul, Nat.reduceSub, Int.reduceToNat, s9], hF, hE⟩ ?_
    rintro j st h hj s11 ⟨s1, s5, s6, s7, s10, F, E, s8, s9, hF, hE⟩
    by_cases hjl : j < (nth a 0).length
    case neg =>
      have hje : j = (nth a 0).length := by omega
      simp (disch := first | (simp only [go_sem, Bool.and_self, eq_self]; done) | omega | (simp only [List.length_cons, List.length_nil]; omega)) only [go_sem, ↓reduceIte, Nat.reduceEqDiff, Nat.reduceAdd, Nat.reduceMul, Nat.reduceSub, Int.reduceToNat, s1, s5, s6, s7, s10, s8, s9, s11, hia, hrow, hjl]
      rw [ForK_normal]
      refine ⟨hia, by simp (disch := first | (simp only [go_sem, Bool.and_self, eq_self]; done) | omega | (simp only [List.length_cons, List.length_nil]; omega)) only [go_sem, ↓reduceIte, Nat.reduceEqDiff, Nat.reduceAdd, Nat.reduceMul, Nat.reduceSub, Int.reduceToNat, s10], by simp (disch := first | (simp only [go_sem, Bool.and_self, eq_self]; done) | omega | (simp only [List.length_cons, List.length_nil]; omega)) only [go_sem, ↓reduceIte, Nat.reduceEqDiff, Nat.reduceAdd, Nat.reduceMul, Nat.reduceSub, Int.reduceToNat, s1], by simp (disch := first | (simp only [go_sem, Bool.and_self, eq_self]; done) | omega | (simp only [List.length_cons, List.length_nil]; omega)) only [go_sem, ↓reduceIte, Nat.reduceEqDiff, Nat.reduceAdd, Nat.reduceMul, Nat.reduceSub, Int.reduceToNat, s5], by simp (disch := first | (simp only [go_sem, Bool.and_self, eq_self]; done) | omega | (simp only [List.length_cons, List.length_nil]; omega)) only [go_sem, ↓reduceIte, Nat.reduceEqDiff, Nat.reduceAdd, Nat.reduceMul, Nat.reduceSub, Int.reduceToNat, s6], by simp (disch := first | (simp only [go_sem, Bool.and_self, eq_self]; done) | omega | (simp only [List.length_cons, List.length_nil]; omega)) only [go_sem, ↓reduceIte, Nat.reduceEqDiff, Nat.reduceAdd, Nat.reduceMul, Nat.reduceSub, Int.reduceToNat, s7], F, E, by simp (disch := first | (simp only [go_sem, Bool.and_self, eq_self]; done) | omega | (simp only [List.length_cons, List.length_nil]; omega)) only [go_sem, ↓reduceIte, Nat.reduceEqDiff, Nat.reduceAdd, Nat.reduceMul, Nat.reduceSub, Int.reduceToNat, s8], by simp (disch := first | (simp only [go_sem, Bool.and_self, eq_self]; done) | omega | (simp only [List.length_cons, List.length_nil]; omega)) only [go_sem, ↓reduceIte, Nat.reduceEqDiff, Nat.reduceAdd, Nat.reduceMul, Nat.reduceSub, Int.reduceToNat, s9], ?_, ?_⟩
      · refine hF.trans ⟨fun h i' j' k' g1 g2 g3 g4 => h i' j' k' g1 g2 g3 (by unfold befP at *; omega), fun h i' j' k' g1 g2 g3 g4 => h i' j' k' g1 g2 g3 (by unfold befP at *; omega)⟩
      · refine hE.trans ⟨fun h i' j' k' g1 g2 g3 g4 => h i' j' k' g1 g2 g3 (by unfold befP at *; omega), fun h i' j' k' g1 g2 g3 g4 => h i' j' k' g1 g2 g3 (by unfold befP at *; omega)⟩
    simp (disch := first | (simp only [go_sem, Bool.and_self, eq_self]; done) | omega | (simp only [List.length_cons, List.length_nil]; omega)) only [go_sem, ↓reduceIte, Nat.reduceEqDiff, Nat.reduceAdd, Nat.reduceMul, Nat.reduceSub, Int.reduceToNat, s1, s5, s6, s7, s10, s8, s9, s11, hia, hrow, hjl]
    refine WP_for 12 a.length (fun k st h => st 1 = I d ∧ st 5 = LLI a ∧ st 6 = I n ∧ st 7 = I 0 ∧ st 10 = I i ∧ st 11 = I j ∧ ∃ F E : Bool, st 8 = .bool F ∧ st 9 = .bool E ∧ FP i j k F ∧ EP i j k E) (by simp (disch := first | (simp only [go_sem, Bool.and_self, eq_self]; done) | omega | (simp only [List.length_cons, List.length_nil]; omega)) only [go_sem, ↓reduceIte, Nat.reduceEqDiff, Nat.reduceAdd, Nat.reduceMul, Nat.reduceSub, Int.reduceToNat]) ⟨by simp (disch := first | (simp only [go_sem, Bool.and_self, eq_self]; done) | omega | (simp only [List.length_cons, List.length_nil]; omega)) only [go_sem, ↓reduceIte, Nat.reduceEqDiff, Nat.reduceAdd, Nat.reduceMul, Nat.reduceSub, Int.reduceToNat, s1, s5, s6, s7, s10, s11], by simp (disch := first | (simp only [go_sem, Bool.and_self, eq_self]; done) | omega | (simp only [List.length_cons, List.length_nil]; omega)) only [go_sem, ↓reduceIte, Nat.reduceEqDiff, Nat.reduceAdd, Nat.reduceMul, Nat.reduceSub, Int.reduceToNat, s1, s5, s6, s7, s10, s11], by simp (disch := first | (simp only [go_sem, Bool.and_self, eq_self]; done) | omega | (simp only [List.length_cons, List.length_nil]; omega)) only [go_sem, ↓reduceIte, Nat.reduceEqDiff, Nat.reduceAdd, Nat.reduceMul, Nat.reduceSub, Int.reduceToNat, s1, s5, s6, s7, s10, s11], by simp (disch := first | (simp only [go_sem, Bool.and_self, eq_self]; done) | omega | (simp only [List.length_cons, List.length_nil]; omega)) only [go_sem, ↓reduceIte, Nat.reduceEqDiff, Nat.reduceAdd, Nat.reduceMul, Nat.reduceSub, Int.reduceToNat, s1, s5, s6, s7, s10, s11], by simp (disch := first | (simp only [go_sem, Bool.and_self, eq_self]; done) | omega | (simp only [List.length_cons, List.length_nil]; omega)) only [go_sem, ↓reduceIte, Nat.reduceEqDiff, Nat.reduceAdd, Nat.reduceMul, Nat.reduceSub, Int.reduceToNat, s1, s5, s6, s7, s10, s11], by simp (disch := first | (simp only [go_sem, Bool.and_self, eq_self]; done) | omega | (simp only [List.length_cons, List.length_nil]; omega)) only [go_sem, ↓reduceIte, Nat.reduceEqDiff, Nat.reduceAdd, Nat.reduceMul, Nat.reduceSub, Int.reduceToNat, s1, s5, s6, s7, s10, s11], F, E, by simp (disch := first | (simp only [go_sem, Bool.and_self, eq_self]; done) | omega | (simp only [List.length_cons, List.length_nil]; omega)) only [go_sem, ↓reduceIte, Nat.reduceEqDiff, Nat.reduceAdd, Nat.reduceMul, Nat.reduceSub, Int.reduceToNat, s8], by simp (disch := first | (simp only [go_sem, Bool.and_self, eq_self]; done) | omega | (simp only [List.length_cons, List.length_nil]; omega)) only [go_sem, ↓reduceIte, Nat.reduceEqDiff, Nat.reduceAdd, Nat.reduceMul, Nat.reduceSub, Int.reduceToNat, s9], hF, hE⟩ ?_
    rintro k st h hk2 s12 ⟨s1, s5, s6, s7, s10, s11, F, E, s8, s9, hF, hE⟩
    by_cases hka : k < a.length
    case neg =>
      have hke : k = a.length := by omega
      simp (disch := first | (simp only [go_sem, Bool.and_self, eq_self]; done) | omega | (simp only [List.length_cons, List.length_nil]; omega)) only [go_sem, ↓reduceIte, Nat.reduceEqDiff, Nat.reduceAdd, Nat.reduceMul, Nat.reduceSub, Int.reduceToNat, s1, s5, s6, s7, s10, s11, s8, s9, s12, hka]
      rw [ForK_normal]
      refine ⟨hjl, by simp (disch := first | (simp only [go_sem, Bool.and_self, eq_self]; done) | omega | (simp only [List.length_cons, List.length_nil]; omega)) only [go_sem, ↓reduceIte, Nat.reduceEqDiff, Nat.reduceAdd, Nat.reduceMul, Nat.reduceSub, Int.reduceToNat, s11], by simp (disch := first | (simp only [go_sem, Bool.and_self, eq_self]; done) | omega | (simp only [List.length_cons, List.length_nil]; omega)) only [go_sem, ↓reduceIte, Nat.reduceEqDiff, Nat.reduceAdd, Nat.reduceMul, Nat.reduceSub, Int.reduceToNat, s1], by simp (disch := first | (simp only [go_sem, Bool.and_self, eq_self]; done) | omega | (simp only [List.length_cons, List.length_nil]; omega)) only [go_sem, ↓reduceIte, Nat.reduceEqDiff, Nat.reduceAdd, Nat.reduceMul, Nat.reduceSub, Int.reduceToNat, s5], by simp (disch := first | (simp only [go_sem, Bool.and_self, eq_self]; done) | omega | (simp only [List.length_cons, List.length_nil]; omega)) only [go_sem, ↓reduceIte, Nat.reduceEqDiff, Nat.reduceAdd, Nat.reduceMul, Nat.reduceSub, Int.reduceToNat, s6], by simp (disch := first | (simp only [go_sem, Bool.and_self, eq_self]; done) | omega | (simp only [List.length_cons, List.length_nil]; omega)) only [go_sem, ↓reduceIte, Nat.reduceEqDiff, Nat.reduceAdd, Nat.reduceMul, Nat.reduceSub, Int.reduceToNat, s7], by simp (disch := first | (simp only [go_sem, Bool.and_self, eq_self]; done) | omega | (simp only [List.length_cons, List.length_nil]; omega)) only [go_sem, ↓reduceIte, Nat.reduceEqDiff, Nat.reduceAdd, Nat.reduceMul, Nat.reduceSub, Int.reduceToNat, s10], F, E, by simp (disch := first | (simp only [go_sem, Bool.and_self, eq_self]; done) | omega | (simp only [List.length_cons, List.length_nil]; omega)) only [go_sem, ↓reduceIte, Nat.reduceEqDiff, Nat.reduceAdd, Nat.reduceMul, Nat.reduceSub, Int.reduceToNat, s8], by simp (disch := first | (simp only [go_sem, Bool.and_self, eq_self]; done) | omega | (simp only [List.length_cons, List.length_nil]; omega)) only [go_sem, ↓reduceIte, Nat.reduceEqDiff, Nat.reduceAdd, Nat.reduceMul, Nat.reduceSub, Int.reduceToNat, s9], ?_, ?_⟩
      · refine hF.trans ⟨fun h i' j' k' g1 g2 g3 g4 => h i' j' k' g1 g2 g3 (by unfold befP at *; omega), fun h i' j' k' g1 g2 g3 g4 => h i' j' k' g1 g2 g3 (by unfold befP at *; omega)⟩
      · refine hE.trans ⟨fun h i' j' k' g1 g2 g3 g4 => h i' j' k' g1 g2 g3 (by unfold befP at *; omega), fun h i' j' k' g1 g2 g3 g4 => h i' j' k' g1 g2 g3 (by unfold befP at *; omega)⟩
    have hrk := f.row k hka
    have nF : FP i j (k + 1) (F && (decide (at2 a i j = 1) || decide (at2 a k j = 0))) := by
      show (_ ↔ _)
      have hF2 := hF
      simp only [FP] at hF2
      rw [Bool.and_eq_true, Bool.or_eq_true, decide_eq_true_eq, decide_eq_true_eq, hF2]
      constructor
      · rintro ⟨h1, h2⟩ i' j' k' g1 g2 g3 g4
        by_cases e : i' = i ∧ j' = j ∧ k' = k
        · obtain ⟨rfl, rfl, rfl⟩ := e; exact h2
        · exact h1 i' j' k' g1 g2 g3 (by unfold befP at *; omega)
      · intro h
        exact ⟨fun i' j' k' g1 g2 g3 g4 => h i' j' k' g1 g2 g3 (by unfold befP at *; omega), h i j k hia hjl hka (by unfold befP; omega)⟩
    have nE : EP i j (k + 1) (E && decide (at2 a i j = at2 a k j)) := by
      show (_ ↔ _)
      have hE2 := hE
      simp only [EP] at hE2
      rw [Bool.and_eq_true, decide_eq_true_eq, hE2]
      constructor
      · rintro ⟨h1, h2⟩ i' j' k' g1 g2 g3 g4
        by_cases e : i' = i ∧ j' = j ∧ k' = k
        · obtain ⟨rfl, rfl, rfl⟩ := e; exact h2
        · exact h1 i' j' k' g1 g2 g3 (by unfold befP at *; omega)
      · intro h
        exact ⟨fun i' j' k' g1 g2 g3 g4 => h i' j' k' g1 g2 g3 (by unfold befP at *; omega), h i j k hia hjl hka (by unfold befP; omega)⟩
    have hij : j < (nth a i).length := by omega
    have hkj : j < (nth a k).length := by omega
    cases F <;> cases E <;> by_cases h1 : at2 a i j = 1
    all_goals
      first
      | (simp (disch := first | (simp only [go_sem, Bool.and_self, eq_self]; done) | omega | (simp only [List.length_cons, List.length_nil]; omega)) only [go_sem, ↓reduceIte, Nat.reduceEqDiff, Nat.reduceAdd, Nat.reduceMul, Nat.reduceSub, Int.reduceToNat, s1, s5, s6, s7, s10, s11, s8, s9, s12, hia, hka, hij, hkj, h1]; done)
      | skip
    all_goals
      simp (disch := first | (simp only [go_sem, Bool.and_self, eq_self]; done) | omega | (simp only [List.length_cons, List.length_nil]; omega)) only [go_sem, ↓reduceIte, Nat.reduceEqDiff, Nat.reduceAdd, Nat.reduceMul, Nat.reduceSub, Int.reduceToNat, s1, s5, s6, s7, s10, s11, s8, s9, s12, hia, hka, hij, hkj, h1]
      rw [ForK_normal]
      refine ⟨hka, by simp (disch := first | (simp only [go_sem, Bool.and_self, eq_self]; done) | omega | (simp only [List.length_cons, List.length_nil]; omega)) only [go_sem, ↓reduceIte, Nat.reduceEqDiff, Nat.reduceAdd, Nat.reduceMul, Nat.reduceSub, Int.reduceToNat, s12], by simp (disch := first | (simp only [go_sem, Bool.and_self, eq_self]; done) | omega | (simp only [List.length_cons, List.length_nil]; omega)) only [go_sem, ↓reduceIte, Nat.reduceEqDiff, Nat.reduceAdd, Nat.reduceMul, Nat.reduceSub, Int.reduceToNat, s1], by simp (disch := first | (simp only [go_sem, Bool.and_self, eq_self]; done) | omega | (simp only [List.length_cons, List.length_nil]; omega)) only [go_sem, ↓reduceIte, Nat.reduceEqDiff, Nat.reduceAdd, Nat.reduceMul, Nat.reduceSub, Int.reduceToNat, s5], by simp (disch := first | (simp only [go_sem, Bool.and_self, eq_self]; done) | omega | (simp only [List.length_cons, List.length_nil]; omega)) only [go_sem, ↓reduceIte, Nat.reduceEqDiff, Nat.reduceAdd, Nat.reduceMul, Nat.reduceSub, Int.reduceToNat, s6], by simp (disch := first | (simp only [go_sem, Bool.and_self, eq_self]; done) | omega | (simp only [List.length_cons, List.length_nil]; omega)) only [go_sem, ↓reduceIte, Nat.reduceEqDiff, Nat.reduceAdd, Nat.reduceMul, Nat.reduceSub, Int.reduceToNat, s7], by simp (disch := first | (simp only [go_sem, Bool.and_self, eq_self]; done) | omega | (simp only [List.length_cons, List.length_nil]; omega)) only [go_sem, ↓reduceIte, Nat.reduceEqDiff, Nat.reduceAdd, Nat.reduceMul, Nat.reduceSub, Int.reduceToNat, s10], by simp (disch := first | (simp only [go_sem, Bool.and_self, eq_self]; done) | omega | (simp only [List.length_cons, List.length_nil]; omega)) only [go_sem, ↓reduceIte, Nat.reduceEqDiff, Nat.reduceAdd, Nat.reduceMul, Nat.reduceSub, Int.reduceToNat, s11], _, _, ?_, ?_, nF, nE⟩
      · simp (disch := first | (simp only [go_sem, Bool.and_self, eq_self]; done) | omega | (simp only [List.length_cons, List.length_nil]; omega)) only [go_sem, ↓reduceIte, Nat.reduceEqDiff, Nat.reduceAdd, Nat.reduceMul, Nat.reduceSub, Int.reduceToNat, s8, h1, Bool.true_and, Bool.false_and, Bool.true_or, Bool.false_or]
      · simp (disch := first | (simp only [go_sem, Bool.and_self, eq_self]; done) | omega | (simp only [List.length_cons, List.length_nil]; omega)) only [go_sem, ↓reduceIte, Nat.reduceEqDiff, Nat.reduceAdd, Nat.reduceMul, Nat.reduceSub, Int.reduceToNat, s9, h1, Bool.true_and, Bool.false_and]
  rintro st h ⟨s1, s5, s6, s7, F, E, s8, s9, hF, hE⟩
  have hnF : n = if F then 1 else 0 := by
    cases F with
    | true =>
      rw [← hn]
      exact least_full f (fun i j k g1 g2 g3 => hF.1 rfl i j k g1 g2 g3 (by unfold befP; omega)) 1
    | false =>
      have : ¬ ∀ i' j' k', i' < a.length → j' < (nth a 0).length → k' < a.length → befP a.length 0 0 i' j' k' → at2 a i' j' = 1 ∨ at2 a k' j' = 0 := fun h => by have := hF.2 h; cases this
      have : ∃ i j k, i < a.length ∧ j < (nth a 0).length ∧ k < a.length ∧ at2 a i j ≠ 1 ∧ at2 a k j ≠ 0 := by
        refine Classical.byContradiction fun hn => this fun i j k g1 g2 g3 _ => ?_
        refine Classical.byContradiction fun hn2 => hn ⟨i, j, k, g1, g2, g3, fun e => hn2 (.inl e), fun e => hn2 (.inr e)⟩
      obtain ⟨i, j, k, g1, g2, g3, g4, g5⟩ := this
      rw [← hn]
      exact least_not f g1 g2 g3 (by have := f.bit i j g1 g2; omega) (by have := f.bit k j g3 g2; omega)
  have hEn : E = true → leastN a dn 4 = 1 := fun h => least_full f (fun i j k g1 g2 g3 => by
    have := hE.1 h i j k g1 g2 g3 (by unfold befP; omega)
    have := f.bit i j g1 g2
    omega) dn
  have t0 : ¬ (0 : Int) = 1 := by decide
  have t1 : ¬ (1 : Int) < 1 := by decide
  have t2 : ¬ (1 : Int) < 0 := by decide
  cases F <;> cases E
  · simp (disch := first | (simp only [go_sem, Bool.and_self, eq_self]; done) | omega | (simp only [List.length_cons, List.length_nil]; omega)) only [go_sem, ↓reduceIte, Nat.reduceEqDiff, Nat.reduceAdd, Nat.reduceMul, Nat.reduceSub, Int.reduceToNat, s1, s5, s6, s7, s8, s9, hnF, mk3, hdn, mk4, ht2, g2, Int.natCast_zero, binA_bne, eq_self, t0, t1, t2]
  · simp (disch := first | (simp only [go_sem, Bool.and_self, eq_self]; done) | omega | (simp only [List.length_cons, List.length_nil]; omega)) only [go_sem, ↓reduceIte, Nat.reduceEqDiff, Nat.reduceAdd, Nat.reduceMul, Nat.reduceSub, Int.reduceToNat, s1, s5, s6, s7, s8, s9, hnF, mk3, hdn, mk4, ht2, g2, hEn rfl, Int.natCast_zero, Int.natCast_one, binA_bne, eq_self, t0, t1, t2]
  · simp (disch := first | (simp only [go_sem, Bool.and_self, eq_self]; done) | omega | (simp only [List.length_cons, List.length_nil]; omega)) only [go_sem, ↓reduceIte, Nat.reduceEqDiff, Nat.reduceAdd, Nat.reduceMul, Nat.reduceSub, Int.reduceToNat, s1, s5, s6, s7, s8, s9, hnF, mk3, hdn, mk4, ht2, g2, Int.natCast_zero, Int.natCast_one, binA_bne, eq_self, t0, t1, t2]
  · simp (disch := first | (simp only [go_sem, Bool.and_self, eq_self]; done) | omega | (simp only [List.length_cons, List.length_nil]; omega)) only [go_sem, ↓reduceIte, Nat.reduceEqDiff, Nat.reduceAdd, Nat.reduceMul, Nat.reduceSub, Int.reduceToNat, s1, s5, s6, s7, s8, s9, hnF, mk3, hdn, mk4, ht2, g2, hEn rfl, Int.natCast_zero, Int.natCast_one, binA_bne, eq_self, t0, t1, t2]
end Go.Proofs.Ytkjdnnedncomgaa
