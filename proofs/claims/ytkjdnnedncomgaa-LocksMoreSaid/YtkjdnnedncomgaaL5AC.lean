/-
  The program's 'plan', Least and Plan.
-/
import Derived.Test.YtkjdnnedncomgaaL5AB
set_option linter.unusedVariables false
set_option linter.unusedSimpArgs false
set_option maxRecDepth 10000
namespace Go.Proofs.Ytkjdnnedncomgaa
open Go Go.Am

variable {h h' : Hp} {K : AV → Hp → Prop}

abbrev ones : List Int := [1, 1, 1, 1, 1, 1]
/-- Chambers for an access plan. -/
def planF (a : List (List Int)) (d c : Nat) : Option (List (List Int)) := (covF (optF a d) c (badM a)).map fun r => r ++ List.replicate (c - r.length) ones
theorem build69o : buildB Try.prog (some (.array 6 3)) (some zero6) [(0, I 1), (1, I 1), (2, I 1), (3, I 1), (4, I 1), (5, I 1)] = some (.agg (eC ones)) := by
  simp [buildB, isz3, fillA, setL, AV.cells, AV.isCell, eC_eq, nth]
theorem optF_lt {a : List (List Int)} (f : Pl a) {d : Nat} : ∀ p ∈ optF a d, p.1 < 2 ^ 36 := fun p hp => acc_lt f (List.mem_filter.1 hp).1
theorem optF_len {a : List (List Int)} (f : Pl a) {d : Nat} (hd : d ≤ 4) : (optF a d).length ≤ 4096 := Nat.le_trans (List.length_filter_le _ _) (accF_len f hd)

theorem f38_con {a : List (List Int)} (f : Pl a) {d c : Nat} (hd : 1 ≤ d ∧ d ≤ 4) (hc : 1 ≤ c ∧ c ≤ 4) : Con Try.prog cfg 38 [LLI a, I c, I d] (.tup [L eC ((planF a d c).getD []), .bool (planF a d c).isSome]) := by
  have kk1 := fun h h' K => k52 (h := h) (h' := h') (K := K) f hd
  have kk2 := fun h h' K => k53 (h := h) (h' := h') (K := K) f
  have kk3 := fun h h' K => k51 (h := h) (h' := h') (K := K) (optF_len f hd.2) (optF_lt f) (c := c) (need := badM a) hc.2 (bad_lt f)
  refine Con_intro Try.func38 rfl ok38 (Nat.le_of_ble_eq_true rfl) rfl ?_
  simp only [Try.f38, Option.getD_some, initSt3]
  cases hr : covF (optF a d) c (badM a) with
  | none =>
    have hp : planF a d c = none := by rw [planF, hr]; rfl
    simp (disch := first | (simp only [go_sem, Bool.and_self, eq_self]; done) | omega | (simp only [List.length_cons, List.length_nil]; omega)) only [go_sem, ↓reduceIte, Nat.reduceEqDiff, Nat.reduceAdd, Nat.reduceMul, Nat.reduceSub, Int.reduceToNat, kk1, kk2, kk3, hr, hp, Option.getD_none, Option.isSome_none, List.length_nil, List.flatMap_nil]
    have o : Own eC 6 (Hp.empty.alloc (.cells false true [])) (.sl 0 0 0 6) [] := .inr ⟨0, rfl, Nat.zero_lt_one, rfl⟩
    obtain ⟨h2, z1, _⟩ := sealA_Own o
    refine WP_loopK (fun m st h => h = (Hp.empty.alloc (.cells false true [])) ∧ st 8 = .sl 0 0 0 6 ∧ st 9 = .bool false) 0 ⟨rfl, by simp (disch := first | (simp only [go_sem, Bool.and_self, eq_self]; done) | omega | (simp only [List.length_cons, List.length_nil]; omega)) only [go_sem, ↓reduceIte, Nat.reduceEqDiff, Nat.reduceAdd, Nat.reduceMul, Nat.reduceSub, Int.reduceToNat], by simp (disch := first | (simp only [go_sem, Bool.and_self, eq_self]; done) | omega | (simp only [List.length_cons, List.length_nil]; omega)) only [go_sem, ↓reduceIte, Nat.reduceEqDiff, Nat.reduceAdd, Nat.reduceMul, Nat.reduceSub, Int.reduceToNat]⟩ ?_
    rintro m st h ⟨rfl, s8, s9⟩
    simp (disch := first | (simp only [go_sem, Bool.and_self, eq_self]; done) | omega | (simp only [List.length_cons, List.length_nil]; omega)) only [go_sem, ↓reduceIte, Nat.reduceEqDiff, Nat.reduceAdd, Nat.reduceMul, Nat.reduceSub, Int.reduceToNat, s8, s9, z1]
  | some r =>
    have hrl := covF_len hr
    have hp : planF a d c = some (r ++ List.replicate (c - r.length) ones) := by rw [planF, hr]; rfl
    simp (disch := first | (simp only [go_sem, Bool.and_self, eq_self]; done) | omega | (simp only [List.length_cons, List.length_nil]; omega)) only [go_sem, ↓reduceIte, Nat.reduceEqDiff, Nat.reduceAdd, Nat.reduceMul, Nat.reduceSub, Int.reduceToNat, kk1, kk2, kk3, hr, hp, Option.getD_some, Option.isSome_some]
    refine WP_loopK (fun m st h => ∃ j, m = c - (r.length + j) ∧ r.length + j ≤ c ∧ st 1 = I c ∧ st 9 = .bool true ∧ ∃ v, st 8 = v ∧ Own eC 6 h v (r ++ List.replicate j ones)) (c - r.length)
      ⟨0, by omega, by omega, by simp (disch := first | (simp only [go_sem, Bool.and_self, eq_self]; done) | omega | (simp only [List.length_cons, List.length_nil]; omega)) only [go_sem, ↓reduceIte, Nat.reduceEqDiff, Nat.reduceAdd, Nat.reduceMul, Nat.reduceSub, Int.reduceToNat], by simp (disch := first | (simp only [go_sem, Bool.and_self, eq_self]; done) | omega | (simp only [List.length_cons, List.length_nil]; omega)) only [go_sem, ↓reduceIte, Nat.reduceEqDiff, Nat.reduceAdd, Nat.reduceMul, Nat.reduceSub, Int.reduceToNat], _, by simp (disch := first | (simp only [go_sem, Bool.and_self, eq_self]; done) | omega | (simp only [List.length_cons, List.length_nil]; omega)) only [go_sem, ↓reduceIte, Nat.reduceEqDiff, Nat.reduceAdd, Nat.reduceMul, Nat.reduceSub, Int.reduceToNat]; rfl, .inr ⟨0, by simp, Nat.zero_lt_one, by simp; rfl⟩⟩ ?_
    rintro m st h ⟨j, rfl, hj, s1, s9, v, s8, how⟩
    have hll : (r ++ List.replicate j ones).length = r.length + j := by simp
    have hlenv := how.lenB 69
    rw [hll] at hlenv
    by_cases hlt : r.length + j < c
    · have hlt' : ((r.length + j : Nat) : Int) < (c : Int) := by omega
      have hbs := fun h : Hp => bsB_row (P := Try.prog) (h := h) (f := eC) 69 ones [] isz69 izero69 (by decide)
      have happ := app_row (P := Try.prog) how 69 48 zero6 ones isz69 ibytes69 izero69 rfl (by omega) (by omega)
      have e1 : r ++ List.replicate j ones ++ [ones] = r ++ List.replicate (j + 1) ones := by rw [List.append_assoc, ← List.replicate_succ']
      simp (disch := first | (simp only [go_sem, Bool.and_self, eq_self]; done) | omega | (simp only [List.length_cons, List.length_nil]; omega)) only [go_sem, ↓reduceIte, Nat.reduceEqDiff, Nat.reduceAdd, Nat.reduceMul, Nat.reduceSub, Int.reduceToNat, s1, s8, s9, hlenv, hlt', build69o, hbs, happ]
      rw [LoopK_normal]
      refine ⟨c - (r.length + (j + 1)), by omega, j + 1, rfl, by omega, by simp (disch := first | (simp only [go_sem, Bool.and_self, eq_self]; done) | omega | (simp only [List.length_cons, List.length_nil]; omega)) only [go_sem, ↓reduceIte, Nat.reduceEqDiff, Nat.reduceAdd, Nat.reduceMul, Nat.reduceSub, Int.reduceToNat, s1], by simp (disch := first | (simp only [go_sem, Bool.and_self, eq_self]; done) | omega | (simp only [List.length_cons, List.length_nil]; omega)) only [go_sem, ↓reduceIte, Nat.reduceEqDiff, Nat.reduceAdd, Nat.reduceMul, Nat.reduceSub, Int.reduceToNat, s9], _, by simp (disch := first | (simp only [go_sem, Bool.and_self, eq_self]; done) | omega | (simp only [List.length_cons, List.length_nil]; omega)) only [go_sem, ↓reduceIte, Nat.reduceEqDiff, Nat.reduceAdd, Nat.reduceMul, Nat.reduceSub, Int.reduceToNat]; rfl, ?_⟩
      rw [e1]; exact Own.app _ _ _
    · have hlt' : ¬ ((r.length + j : Nat) : Int) < (c : Int) := by omega
      obtain ⟨h2, z1, _⟩ := sealA_Own how
      have hje : j = c - r.length := by omega
      simp (disch := first | (simp only [go_sem, Bool.and_self, eq_self]; done) | omega | (simp only [List.length_cons, List.length_nil]; omega)) only [go_sem, ↓reduceIte, Nat.reduceEqDiff, Nat.reduceAdd, Nat.reduceMul, Nat.reduceSub, Int.reduceToNat, s1, s8, s9, hlenv, hlt', z1]
      rw [hje]
theorem k38 {a : List (List Int)} (f : Pl a) {d c : Nat} (hd : 1 ≤ d ∧ d ≤ 4) (hc : 1 ≤ c ∧ c ≤ 4) : ConW Try.prog cfg 38 h (some ([LLI a, I c, I d], h')) K = K (.tup [L eC ((planF a d c).getD []), .bool (planF a d c).isSome]) h' := by
  rw [ConW_any (f38_con f hd hc) rfl, importR_two rfl rfl]

def taskB (a : List (List Int)) (d : Int) : Bool := isPlanB a && decide (1 ≤ d ∧ d ≤ 4)
theorem f37_con (a : List (List Int)) (ha : okLL a) (d : Int) : Con Try.prog cfg 37 [LLI a, I d] (.bool (taskB a d)) := by
  have kk1 := fun h h' K => k32 (h := h) (h' := h') (K := K) a ha
  refine Con_intro Try.func37 rfl ok37 (Nat.le_of_ble_eq_true rfl) rfl ?_
  simp only [Try.f37, Option.getD_some, initSt2]
  cases h1 : isPlanB a with
  | false => simp (disch := first | (simp only [go_sem, Bool.and_self, eq_self]; done) | omega | (simp only [List.length_cons, List.length_nil]; omega)) only [go_sem, ↓reduceIte, Nat.reduceEqDiff, Nat.reduceAdd, Nat.reduceMul, Nat.reduceSub, Int.reduceToNat, kk1, h1, taskB, Bool.false_and]
  | true => simp (disch := first | (simp only [go_sem, Bool.and_self, eq_self]; done) | omega | (simp only [List.length_cons, List.length_nil]; omega)) only [go_sem, ↓reduceIte, Nat.reduceEqDiff, Nat.reduceAdd, Nat.reduceMul, Nat.reduceSub, Int.reduceToNat, kk1, h1, taskB, Bool.true_and]
theorem k37 (a : List (List Int)) (ha : okLL a) (d : Int) : ConW Try.prog cfg 37 h (some ([LLI a, I d], h')) K = K (.bool (taskB a d)) h := ConW_num (f37_con a ha d) rfl

/-- The least number of chambers, up to n; 0: there is none. -/
def leastN (a : List (List Int)) (d : Nat) : Nat → Nat
  | 0 => 0
  | n + 1 => if leastN a d n ≠ 0 then leastN a d n else if (planF a d (n + 1)).isSome then n + 1 else 0
theorem leastN_none {a : List (List Int)} {d n : Nat} (h : ∀ j, j < n → (planF a d (j + 1)).isSome = false) : leastN a d n = 0 := by
  induction n with
  | zero => rfl
  | succ n ih => rw [leastN, ih fun j hj => h j (by omega), h n (by omega)]; simp
theorem leastN_at {a : List (List Int)} {d i : Nat} (h : ∀ j, j < i → (planF a d (j + 1)).isSome = false) (h1 : (planF a d (i + 1)).isSome = true) : ∀ n, i < n → leastN a d n = i + 1 := by
  intro n
  induction n with
  | zero => intro hi; omega
  | succ n ih =>
    intro hi
    rw [leastN]
    rcases Nat.lt_or_ge i n with h2 | h2
    · rw [ih h2]; simp
    · have : n = i := by omega
      subst this
      rw [leastN_none h, h1]; simp
def leastM (a : List (List Int)) (d : Int) : Int := if taskB a d then (leastN a d.toNat 4 : Int) else 0
theorem f18_con (a : List (List Int)) (ha : okLL a) (d : Int) : Con Try.prog cfg 18 [LLI a, I d] (.tup [I (leastM a d), I (if taskB a d then 0 else 2)]) := by
  have kk1 := fun h h' K => k37 (h := h) (h' := h') (K := K) a ha d
  refine Con_intro Try.func18 rfl ok18 (Nat.le_of_ble_eq_true rfl) rfl ?_
  simp only [Try.f18, Option.getD_some, initSt2]
  cases ht : taskB a d with
  | false =>
    have : leastM a d = 0 := by rw [leastM, ht]; rfl
    simp (disch := first | (simp only [go_sem, Bool.and_self, eq_self]; done) | omega | (simp only [List.length_cons, List.length_nil]; omega)) only [go_sem, ↓reduceIte, Nat.reduceEqDiff, Nat.reduceAdd, Nat.reduceMul, Nat.reduceSub, Int.reduceToNat, kk1, ht, this]
  | true =>
  have hl : leastM a d = (leastN a d.toNat 4 : Int) := by rw [leastM, ht]; rfl
  have ht' := ht
  simp only [taskB, Bool.and_eq_true, decide_eq_true_eq] at ht'
  have f := Pl.of ht'.1
  obtain ⟨dn, rfl⟩ : ∃ dn : Nat, d = dn := ⟨d.toNat, by omega⟩
  simp only [Int.toNat_natCast] at hl
  simp (disch := first | (simp only [go_sem, Bool.and_self, eq_self]; done) | omega | (simp only [List.length_cons, List.length_nil]; omega)) only [go_sem, ↓reduceIte, Nat.reduceEqDiff, Nat.reduceAdd, Nat.reduceMul, Nat.reduceSub, Int.reduceToNat, kk1, ht]
  refine WP_for1 6 4 (fun i st h => st 0 = LLI a ∧ st 1 = I dn ∧ ∀ j, j < i → (planF a dn (j + 1)).isSome = false) (by simp (disch := first | (simp only [go_sem, Bool.and_self, eq_self]; done) | omega | (simp only [List.length_cons, List.length_nil]; omega)) only [go_sem, ↓reduceIte, Nat.reduceEqDiff, Nat.reduceAdd, Nat.reduceMul, Nat.reduceSub, Int.reduceToNat]) ⟨by simp (disch := first | (simp only [go_sem, Bool.and_self, eq_self]; done) | omega | (simp only [List.length_cons, List.length_nil]; omega)) only [go_sem, ↓reduceIte, Nat.reduceEqDiff, Nat.reduceAdd, Nat.reduceMul, Nat.reduceSub, Int.reduceToNat], by simp (disch := first | (simp only [go_sem, Bool.and_self, eq_self]; done) | omega | (simp only [List.length_cons, List.length_nil]; omega)) only [go_sem, ↓reduceIte, Nat.reduceEqDiff, Nat.reduceAdd, Nat.reduceMul, Nat.reduceSub, Int.reduceToNat], by omega⟩ ?_
  rintro i st h hi s6 ⟨s0, s1, hn⟩
  by_cases hlt : (i : Int) + 1 ≤ 4
  case neg =>
    have : leastM a dn = 0 := by rw [hl, leastN_none fun j hj => hn j (by omega)]; rfl
    simp (disch := first | (simp only [go_sem, Bool.and_self, eq_self]; done) | omega | (simp only [List.length_cons, List.length_nil]; omega)) only [go_sem, ↓reduceIte, Nat.reduceEqDiff, Nat.reduceAdd, Nat.reduceMul, Nat.reduceSub, Int.reduceToNat, s6, s0, s1, hlt, this]
  have kk2 : ∀ h h' K, ConW Try.prog cfg 38 h (some ([LLI a, I ((i : Int) + 1), I dn], h')) K = K (.tup [L eC ((planF a dn (i + 1)).getD []), .bool (planF a dn (i + 1)).isSome]) h' := fun h h' K => k38 (h := h) (h' := h') (K := K) f (d := dn) (c := i + 1) (by omega) (by omega)
  cases hs : (planF a dn (i + 1)).isSome with
  | true =>
    have : leastM a dn = (i : Int) + 1 := by rw [hl, leastN_at hn hs 4 (by omega)]; rfl
    simp (disch := first | (simp only [go_sem, Bool.and_self, eq_self]; done) | omega | (simp only [List.length_cons, List.length_nil]; omega)) only [go_sem, ↓reduceIte, Nat.reduceEqDiff, Nat.reduceAdd, Nat.reduceMul, Nat.reduceSub, Int.reduceToNat, s6, s0, s1, hlt, kk2, hs, this]
  | false =>
    simp (disch := first | (simp only [go_sem, Bool.and_self, eq_self]; done) | omega | (simp only [List.length_cons, List.length_nil]; omega)) only [go_sem, ↓reduceIte, Nat.reduceEqDiff, Nat.reduceAdd, Nat.reduceMul, Nat.reduceSub, Int.reduceToNat, s6, s0, s1, hlt, kk2, hs]
    rw [For1K_normal]
    refine ⟨by omega, by simp (disch := first | (simp only [go_sem, Bool.and_self, eq_self]; done) | omega | (simp only [List.length_cons, List.length_nil]; omega)) only [go_sem, ↓reduceIte, Nat.reduceEqDiff, Nat.reduceAdd, Nat.reduceMul, Nat.reduceSub, Int.reduceToNat, s6], by simp (disch := first | (simp only [go_sem, Bool.and_self, eq_self]; done) | omega | (simp only [List.length_cons, List.length_nil]; omega)) only [go_sem, ↓reduceIte, Nat.reduceEqDiff, Nat.reduceAdd, Nat.reduceMul, Nat.reduceSub, Int.reduceToNat, s0], by simp (disch := first | (simp only [go_sem, Bool.and_self, eq_self]; done) | omega | (simp only [List.length_cons, List.length_nil]; omega)) only [go_sem, ↓reduceIte, Nat.reduceEqDiff, Nat.reduceAdd, Nat.reduceMul, Nat.reduceSub, Int.reduceToNat, s1], fun j hj => ?_⟩
    rcases Nat.lt_or_ge j i with h1 | h1
    · exact hn j h1
    · rw [show j = i by omega]; exact hs
theorem k18 (a : List (List Int)) (ha : okLL a) (d : Int) : ConW Try.prog cfg 18 h (some ([LLI a, I d], h')) K = K (.tup [I (leastM a d), I (if taskB a d then 0 else 2)]) h := ConW_num (f18_con a ha d) rfl

/-- Cuts, by the chambers. -/
def cutsOf (a : List (List Int)) (l : List (List Int)) : List (List Int) := (List.range a.length).map fun k => l.map fun x => nth x k
/-- What Plan returns. -/
def planM (a : List (List Int)) (c d : Int) : List (List Int) := if taskB a d && decide (1 ≤ c ∧ c ≤ 4) then (match planF a d.toNat c.toNat with | some l => cutsOf a l | none => []) else []
def planE (a : List (List Int)) (c d : Int) : Int := if taskB a d && decide (1 ≤ c ∧ c ≤ 4) then (if (planF a d.toNat c.toNat).isSome then 0 else 6) else 2

/-- The rows while they are filled: k rows whole, then one of j numbers. -/
def partR (a : List (List Int)) (l : List (List Int)) (k j : Nat) : List (List Int) := (List.range a.length).map fun k' => if k' < k then l.map (fun x => nth x k') else if k' = k then (l.take j).map (fun x => nth x k') else []
theorem partR_len (a l : List (List Int)) (k j : Nat) : (partR a l k j).length = a.length := by simp [partR]
theorem partR_nth {a l : List (List Int)} {k j i : Nat} (hi : i < a.length) : nth (partR a l k j) i = if i < k then l.map (fun x => nth x i) else if i = k then (l.take j).map (fun x => nth x i) else [] := nth_map_range _ _ _ hi
theorem partR_next (a l : List (List Int)) (k : Nat) : partR a l k l.length = partR a l (k + 1) 0 := by
  unfold partR
  refine List.map_congr_left fun i hi => ?_
  rw [List.take_length]
  by_cases h1 : i < k
  · rw [if_pos h1, if_pos (by omega)]
  · rw [if_neg h1]
    by_cases h2 : i = k
    · rw [if_pos h2, if_pos (by omega)]
    · rw [if_neg h2, if_neg (by omega)]
      split <;> simp
theorem partR_set {a l : List (List Int)} {k j : Nat} (hk : k < a.length) (hj : j < l.length) : (partR a l k j).set k ((l.take j).map (fun x => nth x k) ++ [nth (nth l j) k]) = partR a l k (j + 1) := by
  refine list_ext_nth (by simp [partR_len]) fun i hi => ?_
  rw [List.length_set, partR_len] at hi
  rw [nth_set _ _ _ _ (by rw [partR_len]; exact hk), partR_nth hi, partR_nth hi]
  by_cases h : k = i
  · subst h
    rw [if_pos rfl, if_neg (by omega), if_pos rfl, List.take_add_one, nth_get hj]; simp
  · simp only [if_neg h, if_neg (show ¬ i = k from fun e => h e.symm)]
theorem partR_zero (a l : List (List Int)) : partR a l 0 0 = List.replicate a.length [] := by
  refine list_ext_nth (by simp [partR_len]) fun i hi => ?_
  rw [partR_len] at hi
  rw [partR_nth hi, nth_replicate _ _ _ hi, if_neg (by omega)]
  split <;> simp
theorem partR_full (a l : List (List Int)) : partR a l a.length 0 = cutsOf a l := by
  unfold partR cutsOf
  refine List.map_congr_left fun i hi => ?_
  rw [if_pos (List.mem_range.1 hi)]

theorem f20_con (a : List (List Int)) (ha : okLL a) (c d : Int) : Con Try.prog cfg 20 [LLI a, I c, I d] (.tup [LLI (planM a c d), I (planE a c d)]) := by
  have kk1 := fun h h' K => k37 (h := h) (h' := h') (K := K) a ha d
  refine Con_intro Try.func20 rfl ok20 (Nat.le_of_ble_eq_true rfl) rfl ?_
  simp only [Try.f20, Option.getD_some, initSt3]
  cases ht : taskB a d with
  | false =>
    have g1 : planM a c d = [] := by simp only [planM, ht, Bool.false_and]; rfl
    have e2 : planE a c d = 2 := by simp only [planE, ht, Bool.false_and]; rfl
    simp (disch := first | (simp only [go_sem, Bool.and_self, eq_self]; done) | omega | (simp only [List.length_cons, List.length_nil]; omega)) only [go_sem, ↓reduceIte, Nat.reduceEqDiff, Nat.reduceAdd, Nat.reduceMul, Nat.reduceSub, Int.reduceToNat, kk1, ht, g1, e2]
    rfl
  | true =>
  by_cases hc : 1 ≤ c ∧ c ≤ 4
  case neg =>
    have g1 : planM a c d = [] := by simp only [planM, decide_eq_false hc, Bool.and_false]; rfl
    have e2 : planE a c d = 2 := by simp only [planE, decide_eq_false hc, Bool.and_false]; rfl
    simp (disch := first | (simp only [go_sem, Bool.and_self, eq_self]; done) | omega | (simp only [List.length_cons, List.length_nil]; omega)) only [go_sem, ↓reduceIte, Nat.reduceEqDiff, Nat.reduceAdd, Nat.reduceMul, Nat.reduceSub, Int.reduceToNat, kk1, ht, decide_eq_false hc, g1, e2]
    rfl
  have ht' := ht
  simp only [taskB, Bool.and_eq_true, decide_eq_true_eq] at ht'
  have f := Pl.of ht'.1
  obtain ⟨dn, rfl⟩ : ∃ dn : Nat, d = dn := ⟨d.toNat, by omega⟩
  obtain ⟨cn, rfl⟩ : ∃ cn : Nat, c = cn := ⟨c.toNat, by omega⟩
  have kk2 := fun h h' K => k38 (h := h) (h' := h') (K := K) f (d := dn) (c := cn) (by omega) (by omega)
  have hk := f.keys
  cases hp : planF a dn cn with
  | none =>
    have g1 : planM a cn dn = [] := by simp only [planM, ht, decide_eq_true hc, Bool.and_self, if_true, Int.toNat_natCast, hp]
    have e2 : planE a cn dn = 6 := by simp only [planE, ht, decide_eq_true hc, Bool.and_self, if_true, Int.toNat_natCast, hp, Option.isSome_none]; rfl
    simp (disch := first | (simp only [go_sem, Bool.and_self, eq_self]; done) | omega | (simp only [List.length_cons, List.length_nil]; omega)) only [go_sem, ↓reduceIte, Nat.reduceEqDiff, Nat.reduceAdd, Nat.reduceMul, Nat.reduceSub, Int.reduceToNat, kk1, ht, decide_eq_true hc, kk2, hp, Option.isSome_none, g1, e2]
    rfl
  | some l =>
    have g1 : planM a cn dn = cutsOf a l := by simp only [planM, ht, decide_eq_true hc, Bool.and_self, if_true, Int.toNat_natCast, hp]
    have e2 : planE a cn dn = 0 := by simp only [planE, ht, decide_eq_true hc, Bool.and_self, if_true, Int.toNat_natCast, hp, Option.isSome_some]
    have hll : l.length = cn := by
      rw [planF] at hp
      obtain ⟨r, h1, rfl⟩ := Option.map_eq_some_iff.1 hp
      have := covF_len h1
      simp; omega
    have hmk := makeB_sl (P := Try.prog) (h := Hp.empty) 27 (a.length : Int) isz27 ibytes27 izero27 (by omega) (by omega)
    simp (disch := first | (simp only [go_sem, Bool.and_self, eq_self]; done) | omega | (simp only [List.length_cons, List.length_nil]; omega)) only [go_sem, ↓reduceIte, Nat.reduceEqDiff, Nat.reduceAdd, Nat.reduceMul, Nat.reduceSub, Int.reduceToNat, kk1, ht, decide_eq_true hc, kk2, hp, Option.isSome_some, Option.getD_some, g1, e2, hmk]
    refine WP_for 37 a.length (fun k st h => st 8 = L eC l ∧ st 10 = .sl 0 0 a.length 1 ∧ st 36 = I a.length ∧ 1 ≤ h.nx ∧ ∃ flat, h.bl 0 = some (.cells false true flat) ∧ RowsAt (e1 I) 1 h flat (partR a l k 0) ∧ ∀ (j id off n s : Nat), flat[j]? = some (AV.sl id off n s) → id ≠ 0)
      (by simp (disch := first | (simp only [go_sem, Bool.and_self, eq_self]; done) | omega | (simp only [List.length_cons, List.length_nil]; omega)) only [go_sem, ↓reduceIte, Nat.reduceEqDiff, Nat.reduceAdd, Nat.reduceMul, Nat.reduceSub, Int.reduceToNat]) ⟨by simp (disch := first | (simp only [go_sem, Bool.and_self, eq_self]; done) | omega | (simp only [List.length_cons, List.length_nil]; omega)) only [go_sem, ↓reduceIte, Nat.reduceEqDiff, Nat.reduceAdd, Nat.reduceMul, Nat.reduceSub, Int.reduceToNat], by simp (disch := first | (simp only [go_sem, Bool.and_self, eq_self]; done) | omega | (simp only [List.length_cons, List.length_nil]; omega)) only [go_sem, ↓reduceIte, Nat.reduceEqDiff, Nat.reduceAdd, Nat.reduceMul, Nat.reduceSub, Int.reduceToNat], by simp (disch := first | (simp only [go_sem, Bool.and_self, eq_self]; done) | omega | (simp only [List.length_cons, List.length_nil]; omega)) only [go_sem, ↓reduceIte, Nat.reduceEqDiff, Nat.reduceAdd, Nat.reduceMul, Nat.reduceSub, Int.reduceToNat], by simp (disch := first | (simp only [go_sem, Bool.and_self, eq_self]; done) | omega | (simp only [List.length_cons, List.length_nil]; omega)) only [go_sem, ↓reduceIte, Nat.reduceEqDiff, Nat.reduceAdd, Nat.reduceMul, Nat.reduceSub, Int.reduceToNat, Nat.le_refl], _, by simp (disch := first | (simp only [go_sem, Bool.and_self, eq_self]; done) | omega | (simp only [List.length_cons, List.length_nil]; omega)) only [go_sem, ↓reduceIte, Nat.reduceEqDiff, Nat.reduceAdd, Nat.reduceMul, Nat.reduceSub, Int.reduceToNat]; rfl, by rw [partR_zero]; exact RowsAt.nils _, ?_⟩ ?_
    · intro j id off n s hj
      rw [List.getElem?_replicate] at hj
      split at hj <;> cases hj
    rintro k st h hi s37 ⟨s8, s10, s36, hnx, flat, b0, hrows, hne0⟩
    by_cases hlt : k < a.length
    case neg =>
      have hke : k = a.length := by omega
      subst hke
      rw [partR_full] at hrows
      have hcl : (cutsOf a l).length = a.length := by simp [cutsOf]
      have hpu : AV.pureL flat = false := by
        have h0 : 0 < flat.length := by rw [hrows.len, hcl]; omega
        have o := hrows.own 0 _ (List.getElem?_eq_getElem h0)
        have hn0 : nth (cutsOf a l) 0 = l.map fun x => nth x 0 := nth_map_range _ _ _ (by omega)
        obtain ⟨id, q, _⟩ := o.sl (by rw [hn0, List.length_map]; omega)
        cases hfl : flat with
        | nil => rw [hfl] at h0; cases h0
        | cons w ws =>
          simp only [hfl, List.getElem_cons_zero] at q
          rw [q]; rfl
      obtain ⟨h2, z1, _⟩ := sealA_rows hrows 0 a.length false true b0 hcl.symm hpu hne0
      simp (disch := first | (simp only [go_sem, Bool.and_self, eq_self]; done) | omega | (simp only [List.length_cons, List.length_nil]; omega)) only [go_sem, ↓reduceIte, Nat.reduceEqDiff, Nat.reduceAdd, Nat.reduceMul, Nat.reduceSub, Int.reduceToNat, s8, s10, s36, s37, hlt, z1]
    simp (disch := first | (simp only [go_sem, Bool.and_self, eq_self]; done) | omega | (simp only [List.length_cons, List.length_nil]; omega)) only [go_sem, ↓reduceIte, Nat.reduceEqDiff, Nat.reduceAdd, Nat.reduceMul, Nat.reduceSub, Int.reduceToNat, s8, s10, s36, s37, hlt]
    refine WP_for 42 l.length (fun j st h => st 8 = L eC l ∧ st 10 = .sl 0 0 a.length 1 ∧ st 36 = I a.length ∧ st 37 = I k ∧ st 11 = I k ∧ st 40 = L eC l ∧ st 41 = I l.length ∧ 1 ≤ h.nx ∧ ∃ flat, h.bl 0 = some (.cells false true flat) ∧ RowsAt (e1 I) 1 h flat (partR a l k j) ∧ ∀ (j id off n s : Nat), flat[j]? = some (AV.sl id off n s) → id ≠ 0)
      (by simp (disch := first | (simp only [go_sem, Bool.and_self, eq_self]; done) | omega | (simp only [List.length_cons, List.length_nil]; omega)) only [go_sem, ↓reduceIte, Nat.reduceEqDiff, Nat.reduceAdd, Nat.reduceMul, Nat.reduceSub, Int.reduceToNat]) ⟨by simp (disch := first | (simp only [go_sem, Bool.and_self, eq_self]; done) | omega | (simp only [List.length_cons, List.length_nil]; omega)) only [go_sem, ↓reduceIte, Nat.reduceEqDiff, Nat.reduceAdd, Nat.reduceMul, Nat.reduceSub, Int.reduceToNat, s8, s10, s36, s37], by simp (disch := first | (simp only [go_sem, Bool.and_self, eq_self]; done) | omega | (simp only [List.length_cons, List.length_nil]; omega)) only [go_sem, ↓reduceIte, Nat.reduceEqDiff, Nat.reduceAdd, Nat.reduceMul, Nat.reduceSub, Int.reduceToNat, s8, s10, s36, s37], by simp (disch := first | (simp only [go_sem, Bool.and_self, eq_self]; done) | omega | (simp only [List.length_cons, List.length_nil]; omega)) only [go_sem, ↓reduceIte, Nat.reduceEqDiff, Nat.reduceAdd, Nat.reduceMul, Nat.reduceSub, Int.reduceToNat, s8, s10, s36, s37], by simp (disch := first | (simp only [go_sem, Bool.and_self, eq_self]; done) | omega | (simp only [List.length_cons, List.length_nil]; omega)) only [go_sem, ↓reduceIte, Nat.reduceEqDiff, Nat.reduceAdd, Nat.reduceMul, Nat.reduceSub, Int.reduceToNat, s8, s10, s36, s37], by simp (disch := first | (simp only [go_sem, Bool.and_self, eq_self]; done) | omega | (simp only [List.length_cons, List.length_nil]; omega)) only [go_sem, ↓reduceIte, Nat.reduceEqDiff, Nat.reduceAdd, Nat.reduceMul, Nat.reduceSub, Int.reduceToNat, s8, s10, s36, s37], by simp (disch := first | (simp only [go_sem, Bool.and_self, eq_self]; done) | omega | (simp only [List.length_cons, List.length_nil]; omega)) only [go_sem, ↓reduceIte, Nat.reduceEqDiff, Nat.reduceAdd, Nat.reduceMul, Nat.reduceSub, Int.reduceToNat, s8, s10, s36, s37], by simp (disch := first | (simp only [go_sem, Bool.and_self, eq_self]; done) | omega | (simp only [List.length_cons, List.length_nil]; omega)) only [go_sem, ↓reduceIte, Nat.reduceEqDiff, Nat.reduceAdd, Nat.reduceMul, Nat.reduceSub, Int.reduceToNat, s8, s10, s36, s37], hnx, flat, by simp (disch := first | (simp only [go_sem, Bool.and_self, eq_self]; done) | omega | (simp only [List.length_cons, List.length_nil]; omega)) only [go_sem, ↓reduceIte, Nat.reduceEqDiff, Nat.reduceAdd, Nat.reduceMul, Nat.reduceSub, Int.reduceToNat, b0], hrows, hne0⟩ ?_
    rintro j st h hj s42 ⟨s8, s10, s36, s37, s11, s40, s41, hnx, flat, b0, hrows, hne0⟩
    by_cases hjl : j < l.length
    case neg =>
      have hje : j = l.length := by omega
      subst hje
      simp (disch := first | (simp only [go_sem, Bool.and_self, eq_self]; done) | omega | (simp only [List.length_cons, List.length_nil]; omega)) only [go_sem, ↓reduceIte, Nat.reduceEqDiff, Nat.reduceAdd, Nat.reduceMul, Nat.reduceSub, Int.reduceToNat, s8, s10, s36, s37, s11, s40, s41, s42, hjl]
      rw [ForK_normal]
      exact ⟨hlt, by simp (disch := first | (simp only [go_sem, Bool.and_self, eq_self]; done) | omega | (simp only [List.length_cons, List.length_nil]; omega)) only [go_sem, ↓reduceIte, Nat.reduceEqDiff, Nat.reduceAdd, Nat.reduceMul, Nat.reduceSub, Int.reduceToNat, s37], by simp (disch := first | (simp only [go_sem, Bool.and_self, eq_self]; done) | omega | (simp only [List.length_cons, List.length_nil]; omega)) only [go_sem, ↓reduceIte, Nat.reduceEqDiff, Nat.reduceAdd, Nat.reduceMul, Nat.reduceSub, Int.reduceToNat, s8], by simp (disch := first | (simp only [go_sem, Bool.and_self, eq_self]; done) | omega | (simp only [List.length_cons, List.length_nil]; omega)) only [go_sem, ↓reduceIte, Nat.reduceEqDiff, Nat.reduceAdd, Nat.reduceMul, Nat.reduceSub, Int.reduceToNat, s10], by simp (disch := first | (simp only [go_sem, Bool.and_self, eq_self]; done) | omega | (simp only [List.length_cons, List.length_nil]; omega)) only [go_sem, ↓reduceIte, Nat.reduceEqDiff, Nat.reduceAdd, Nat.reduceMul, Nat.reduceSub, Int.reduceToNat, s36], hnx, flat, b0, by rw [← partR_next]; exact hrows, hne0⟩
    have hfll : flat.length = a.length := by rw [hrows.len, partR_len]
    have hk6 : k < 6 := by omega
    have hst2 : ∀ (h : Hp) (id : Nat), storeC h id 0 6 (some (.cells false false [I 0, I 0, I 0, I 0, I 0, I 0])) (eC (nth l j)) = some (.skp, h.put id (some (.cells false false (eC (nth l j))))) := fun h id => storeC_row id false [I 0, I 0, I 0, I 0, I 0, I 0] (nth l j) rfl
    have hld := loadC_row (f := eC) (.array 6 3) rfl (nth l j)
    have hg := eC_get (x := nth l j) hk6
    obtain ⟨v, hv⟩ : ∃ v, flat[k]? = some v := ⟨_, List.getElem?_eq_getElem (by omega)⟩
    have how := hrows.own k v hv
    rw [partR_nth hlt, if_neg (by omega), if_pos rfl] at how
    generalize hG : (h.alloc (.cells false false [I 0, I 0, I 0, I 0, I 0, I 0])).put h.nx (some (.cells false false (eC (nth l j)))) = G
    have hG1 : G.bl h.nx = some (.cells false false (eC (nth l j))) := by rw [← hG]; simp (disch := first | (simp only [go_sem, Bool.and_self, eq_self]; done) | omega | (simp only [List.length_cons, List.length_nil]; omega)) only [go_sem, ↓reduceIte, Nat.reduceEqDiff, Nat.reduceAdd, Nat.reduceMul, Nat.reduceSub, Int.reduceToNat]
    have hG2 : G.nx = h.nx + 1 := by rw [← hG]; simp (disch := first | (simp only [go_sem, Bool.and_self, eq_self]; done) | omega | (simp only [List.length_cons, List.length_nil]; omega)) only [go_sem, ↓reduceIte, Nat.reduceEqDiff, Nat.reduceAdd, Nat.reduceMul, Nat.reduceSub, Int.reduceToNat]
    have hG3 : ∀ id, id < h.nx → G.bl id = h.bl id := by intro id hid; rw [← hG]; simp (disch := first | (simp only [go_sem, Bool.and_self, eq_self]; done) | omega | (simp only [List.length_cons, List.length_nil]; omega)) only [go_sem, ↓reduceIte, Nat.reduceEqDiff, Nat.reduceAdd, Nat.reduceMul, Nat.reduceSub, Int.reduceToNat, Nat.ne_of_lt hid]
    have hG0 : G.bl 0 = some (.cells false true flat) := by rw [hG3 0 (by omega)]; exact b0
    have hrowsG : RowsAt (e1 I) 1 G flat (partR a l k j) := hrows.mono (by omega) fun i id off n s hi => by
      rcases hrows.own i _ hi with ⟨q, _⟩ | ⟨id', q, h1, _⟩
      · cases q
      · cases q; exact hG3 id h1
    have howG := how.mono (h' := G) (by omega) hG3
    have htl : ((l.take j).map fun x => nth x k).length ≤ 4 := by simp; omega
    have hbs := fun h : Hp => bsB_one (P := Try.prog) (h := h) 3 (I (nth (nth l j) k)) (I (nth (nth l j) k)) (I 0) h isz3 izero3 rfl rfl rfl rfl rfl rfl rfl
    have happ := app_one (P := Try.prog) howG 3 8 (I 0) (nth (nth l j) k) isz3 ibytes3 izero3 rfl (by omega) (by omega)
    have n0 : ¬ 0 = h.nx := by omega
    have c0 : (appH G v ((((l.take j).map fun x => nth x k) ++ [nth (nth l j) k]).flatMap (e1 I))).bl 0 = some (.cells false true flat) := by
      rw [appH_bl _ _ _ _ (by omega) (fun id off n s e => by subst e; exact (hne0 k id off n s hv).symm)]; exact hG0
    have hstv : ∀ (h : Hp) (id o n s : Nat), storeC h 0 k 1 (some (.cells false true flat)) [.sl id o n s] = some (.skp, h.put 0 (some (.cells false true (flat.set k (.sl id o n s))))) := fun h id o n s => storeC_one 0 k true flat _ rfl (by omega)
    have hlim : ∀ n, 0 < n → lims (some n) 0 = true := fun n hn => by simp [lims, hn]
    have hlim2 : lims (some (h.nx + 1)) h.nx = true := by simp [lims]
    simp (disch := first | (simp only [go_sem, Bool.and_self, eq_self]; done) | omega | (simp only [List.length_cons, List.length_nil]; omega)) only [go_sem, ↓reduceIte, Nat.reduceEqDiff, Nat.reduceAdd, Nat.reduceMul, Nat.reduceSub, Int.reduceToNat, s8, s10, s36, s37, s11, s40, s41, s42, hjl, hld, hst2, hG, hG0, hG1, hG2, n0, hv, hg, hbs, happ, c0, hstv, appV, hlim, hlim2]
    rw [ForK_normal]
    have hrows2 := hrowsG.app hv (((l.take j).map fun x => nth x k) ++ [nth (nth l j) k]) 0 (.cells false true (flat.set k (appV G (((l.take j).map fun x => nth x k) ++ [nth (nth l j) k]).length 1))) hne0 (by omega)
    rw [partR_set hlt hjl] at hrows2
    unfold appV at hrows2
    refine ⟨hjl, by simp (disch := first | (simp only [go_sem, Bool.and_self, eq_self]; done) | omega | (simp only [List.length_cons, List.length_nil]; omega)) only [go_sem, ↓reduceIte, Nat.reduceEqDiff, Nat.reduceAdd, Nat.reduceMul, Nat.reduceSub, Int.reduceToNat, s42], by simp (disch := first | (simp only [go_sem, Bool.and_self, eq_self]; done) | omega | (simp only [List.length_cons, List.length_nil]; omega)) only [go_sem, ↓reduceIte, Nat.reduceEqDiff, Nat.reduceAdd, Nat.reduceMul, Nat.reduceSub, Int.reduceToNat, s8], by simp (disch := first | (simp only [go_sem, Bool.and_self, eq_self]; done) | omega | (simp only [List.length_cons, List.length_nil]; omega)) only [go_sem, ↓reduceIte, Nat.reduceEqDiff, Nat.reduceAdd, Nat.reduceMul, Nat.reduceSub, Int.reduceToNat, s10], by simp (disch := first | (simp only [go_sem, Bool.and_self, eq_self]; done) | omega | (simp only [List.length_cons, List.length_nil]; omega)) only [go_sem, ↓reduceIte, Nat.reduceEqDiff, Nat.reduceAdd, Nat.reduceMul, Nat.reduceSub, Int.reduceToNat, s36], by simp (disch := first | (simp only [go_sem, Bool.and_self, eq_self]; done) | omega | (simp only [List.length_cons, List.length_nil]; omega)) only [go_sem, ↓reduceIte, Nat.reduceEqDiff, Nat.reduceAdd, Nat.reduceMul, Nat.reduceSub, Int.reduceToNat, s37], by simp (disch := first | (simp only [go_sem, Bool.and_self, eq_self]; done) | omega | (simp only [List.length_cons, List.length_nil]; omega)) only [go_sem, ↓reduceIte, Nat.reduceEqDiff, Nat.reduceAdd, Nat.reduceMul, Nat.reduceSub, Int.reduceToNat, s11], by simp (disch := first | (simp only [go_sem, Bool.and_self, eq_self]; done) | omega | (simp only [List.length_cons, List.length_nil]; omega)) only [go_sem, ↓reduceIte, Nat.reduceEqDiff, Nat.reduceAdd, Nat.reduceMul, Nat.reduceSub, Int.reduceToNat, s40], by simp (disch := first | (simp only [go_sem, Bool.and_self, eq_self]; done) | omega | (simp only [List.length_cons, List.length_nil]; omega)) only [go_sem, ↓reduceIte, Nat.reduceEqDiff, Nat.reduceAdd, Nat.reduceMul, Nat.reduceSub, Int.reduceToNat, s41], by rw [put_nx, appH_nx]; omega, _, by simp (disch := first | (simp only [go_sem, Bool.and_self, eq_self]; done) | omega | (simp only [List.length_cons, List.length_nil]; omega)) only [go_sem, ↓reduceIte, Nat.reduceEqDiff, Nat.reduceAdd, Nat.reduceMul, Nat.reduceSub, Int.reduceToNat]; rfl, ?_, ?_⟩
    · rw [hG2] at hrows2; exact hrows2
    · intro i id off n s hi
      rw [List.getElem?_set] at hi
      split at hi
      · split at hi
        · cases hi; omega
        · cases hi
      · exact hne0 i id off n s hi
theorem k20 (a : List (List Int)) (ha : okLL a) (c d : Int) : ConW Try.prog cfg 20 h (some ([LLI a, I c, I d], h')) K = K (.tup [LLI (planM a c d), I (planE a c d)]) h' := by
  rw [ConW_any (f20_con a ha c d) rfl, importR_two rfl rfl]
end Go.Proofs.Ytkjdnnedncomgaa
