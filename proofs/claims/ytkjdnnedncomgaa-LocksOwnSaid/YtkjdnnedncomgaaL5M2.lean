/-
  The program's 'plan', Least and Plan.
  The reference's Least, walked.
  The reference's maximal sets, and its Least.
  The plans and cuts that the statements make from any input.
  How many possible keys open a lock.
  Wrong pairs: what the program and the reference return.
  Wrong, Check, and the reference's Wrong and Strangers.
  The reference's Wrong and Strangers.
  The reference's checks of plans and cuts.
  'table': a copy of any list of lists.
  The least number of chambers: the program's search and the reference's agree, and what Plan returns is right.
  The program's few simple results, worked out.
  LocksPlans and LocksOne, walked.
  Keys without repetition: the functions of slices that it takes, the program's Merge, the reference's.
  A configuration in which plans that are made are handed over whole.
  Plan and Clone: their answers handed over.
  Merge: its answer handed over.
  'LocksOwn' answers true.
-/
import Derived.Test.YtkjdnnedncomgaaL5M1
import Derived.Test.YtkjdnnedncomgaaAmMore
import Derived.Test.YtkjdnnedncomgaaL5Facts
import Derived.Test.YtkjdnnedncomgaaAmRows
set_option linter.unusedVariables false
set_option linter.unusedSimpArgs false
set_option maxRecDepth 10000
namespace Go.Proofs.Ytkjdnnedncomgaa
open Go Go.Am

variable {h h' : Hp} {K : AV → Hp → Prop}

abbrev ones : List Int := [1, 1, 1, 1, 1, 1]
/-- Chambers for an access plan. -/
def planF (a : List (List Int)) (d c : Nat) : Option (List (List Int)) := (covF (optF a d) c (badM a)).map fun r => r ++ List.replicate (c - r.length) ones
theorem build69o : buildB Try.prog (some (.array 6 3)) (some zero6) [(0, I 1), (1, I 1), (2, I 1), (3, I 1), (4, I 1), (5, I 1)] = some (.agg (eC ones)) := by
  simp [buildB, isz3, fillA, setL, AV.cells, AV.isCell, eC_eq, nth]
theorem optF_lt {a : List (List Int)} (f : Pl a) {d : Nat} : ∀ p ∈ optF a d, p.1 < 2 ^ 36 := fun p hp => acc_lt f (List.mem_filter.1 hp).1
theorem optF_len {a : List (List Int)} (f : Pl a) {d : Nat} (hd : d ≤ 4) : (optF a d).length ≤ 4096 := Nat.le_trans (List.length_filter_le _ _) (accF_len f hd)

theorem f38_con {a : List (List Int)} (f : Pl a) {d c : Nat} (hd : 1 ≤ d ∧ d ≤ 4) (hc : 1 ≤ c ∧ c ≤ 4) : Con Try.prog cfg 38 [LLI a, I c, I d] (.tup [L eC ((planF a d c).getD []), .bool (planF a d c).isSome]) := by
  have kk1 := fun h h' K => k52 (h := h) (h' := h') (K := K) f hd
  have kk2 := fun h h' K => k53 (h := h) (h' := h') (K := K) f
  have kk3 := fun h h' K => k51 (h := h) (h' := h') (K := K) (optF_len f hd.2) (optF_lt f) (c := c) (need := badM a) hc.2 (bad_lt f)
  refine Con_intro Try.func38 rfl ok38 (Nat.le_of_ble_eq_true rfl) rfl ?_
  simp only [Try.f38, Option.getD_some, initSt3]
  cases hr : covF (optF a d) c (badM a) with
  | none =>
    have hp : planF a d c = none := by rw [planF, hr]; rfl
    simp (disch := first | (simp only [go_sem, Bool.and_self, eq_self]; done) | omega | (simp only [List.length_cons, List.length_nil]; omega)) only [go_sem, ↓reduceIte, Nat.reduceEqDiff, Nat.reduceAdd, Nat.reduceMul, Nat.reduceSub, Int.reduceToNat, Nat.reduceBEq, List.size_toArray, List.length_cons, List.length_nil, Bool.false_and, Bool.true_and, Bool.or_false, Bool.false_or, Bool.and_false, Bool.and_true, kk1, kk2, kk3, hr, hp, Option.getD_none, Option.isSome_none, List.length_nil, List.flatMap_nil]
    have o : Own eC 6 (Hp.empty.alloc (.cells false true [])) (.sl 0 0 0 6) [] := .inr ⟨0, rfl, Nat.zero_lt_one, rfl⟩
    obtain ⟨h2, z1, _⟩ := sealA_Own o
    refine WP_loopK (fun m st h => h = (Hp.empty.alloc (.cells false true [])) ∧ st 8 = .sl 0 0 0 6 ∧ st 9 = .bool false) 0 ⟨rfl, by simp (disch := first | (simp only [go_sem, Bool.and_self, eq_self]; done) | omega | (simp only [List.length_cons, List.length_nil]; omega)) only [go_sem, ↓reduceIte, Nat.reduceEqDiff, Nat.reduceAdd, Nat.reduceMul, Nat.reduceSub, Int.reduceToNat, Nat.reduceBEq, List.size_toArray, List.length_cons, List.length_nil, Bool.false_and, Bool.true_and, Bool.or_false, Bool.false_or, Bool.and_false, Bool.and_true], by simp (disch := first | (simp only [go_sem, Bool.and_self, eq_self]; done) | omega | (simp only [List.length_cons, List.length_nil]; omega)) only [go_sem, ↓reduceIte, Nat.reduceEqDiff, Nat.reduceAdd, Nat.reduceMul, Nat.reduceSub, Int.reduceToNat, Nat.reduceBEq, List.size_toArray, List.length_cons, List.length_nil, Bool.false_and, Bool.true_and, Bool.or_false, Bool.false_or, Bool.and_false, Bool.and_true]⟩ ?_
    rintro m st h ⟨rfl, s8, s9⟩
    simp (disch := first | (simp only [go_sem, Bool.and_self, eq_self]; done) | omega | (simp only [List.length_cons, List.length_nil]; omega)) only [go_sem, ↓reduceIte, Nat.reduceEqDiff, Nat.reduceAdd, Nat.reduceMul, Nat.reduceSub, Int.reduceToNat, Nat.reduceBEq, List.size_toArray, List.length_cons, List.length_nil, Bool.false_and, Bool.true_and, Bool.or_false, Bool.false_or, Bool.and_false, Bool.and_true, s8, s9, z1]
  | some r =>
    have hrl := covF_len hr
    have hp : planF a d c = some (r ++ List.replicate (c - r.length) ones) := by rw [planF, hr]; rfl
    simp (disch := first | (simp only [go_sem, Bool.and_self, eq_self]; done) | omega | (simp only [List.length_cons, List.length_nil]; omega)) only [go_sem, ↓reduceIte, Nat.reduceEqDiff, Nat.reduceAdd, Nat.reduceMul, Nat.reduceSub, Int.reduceToNat, Nat.reduceBEq, List.size_toArray, List.length_cons, List.length_nil, Bool.false_and, Bool.true_and, Bool.or_false, Bool.false_or, Bool.and_false, Bool.and_true, kk1, kk2, kk3, hr, hp, Option.getD_some, Option.isSome_some]
    refine WP_loopK (fun m st h => ∃ j, m = c - (r.length + j) ∧ r.length + j ≤ c ∧ st 1 = I c ∧ st 9 = .bool true ∧ ∃ v, st 8 = v ∧ Own eC 6 h v (r ++ List.replicate j ones)) (c - r.length)
      ⟨0, by omega, by omega, by simp (disch := first | (simp only [go_sem, Bool.and_self, eq_self]; done) | omega | (simp only [List.length_cons, List.length_nil]; omega)) only [go_sem, ↓reduceIte, Nat.reduceEqDiff, Nat.reduceAdd, Nat.reduceMul, Nat.reduceSub, Int.reduceToNat, Nat.reduceBEq, List.size_toArray, List.length_cons, List.length_nil, Bool.false_and, Bool.true_and, Bool.or_false, Bool.false_or, Bool.and_false, Bool.and_true], by simp (disch := first | (simp only [go_sem, Bool.and_self, eq_self]; done) | omega | (simp only [List.length_cons, List.length_nil]; omega)) only [go_sem, ↓reduceIte, Nat.reduceEqDiff, Nat.reduceAdd, Nat.reduceMul, Nat.reduceSub, Int.reduceToNat, Nat.reduceBEq, List.size_toArray, List.length_cons, List.length_nil, Bool.false_and, Bool.true_and, Bool.or_false, Bool.false_or, Bool.and_false, Bool.and_true], _, by simp (disch := first | (simp only [go_sem, Bool.and_self, eq_self]; done) | omega | (simp only [List.length_cons, List.length_nil]; omega)) only [go_sem, ↓reduceIte, Nat.reduceEqDiff, Nat.reduceAdd, Nat.reduceMul, Nat.reduceSub, Int.reduceToNat, Nat.reduceBEq, List.size_toArray, List.length_cons, List.length_nil, Bool.false_and, Bool.true_and, Bool.or_false, Bool.false_or, Bool.and_false, Bool.and_true]; rfl, .inr ⟨0, by simp, Nat.zero_lt_one, by simp; rfl⟩⟩ ?_
    rintro m st h ⟨j, rfl, hj, s1, s9, v, s8, how⟩
    have hll : (r ++ List.replicate j ones).length = r.length + j := by simp
    have hlenv := how.lenB 69
    rw [hll] at hlenv
    by_cases hlt : r.length + j < c
    · have hlt' : ((r.length + j : Nat) : Int) < (c : Int) := by omega
      have hbs := fun h : Hp => bsB_row (P := Try.prog) (h := h) (f := eC) 69 ones [] isz69 izero69 (by decide)
      have happ := app_row (P := Try.prog) how 69 48 zero6 ones isz69 ibytes69 izero69 rfl (by omega) (by omega)
      have e1 : r ++ List.replicate j ones ++ [ones] = r ++ List.replicate (j + 1) ones := by rw [List.append_assoc, ← List.replicate_succ']
      simp (disch := first | (simp only [go_sem, Bool.and_self, eq_self]; done) | omega | (simp only [List.length_cons, List.length_nil]; omega)) only [go_sem, ↓reduceIte, Nat.reduceEqDiff, Nat.reduceAdd, Nat.reduceMul, Nat.reduceSub, Int.reduceToNat, Nat.reduceBEq, List.size_toArray, List.length_cons, List.length_nil, Bool.false_and, Bool.true_and, Bool.or_false, Bool.false_or, Bool.and_false, Bool.and_true, s1, s8, s9, hlenv, hlt', build69o, hbs, happ]
      rw [LoopK_normal]
      refine ⟨c - (r.length + (j + 1)), by omega, j + 1, rfl, by omega, by simp (disch := first | (simp only [go_sem, Bool.and_self, eq_self]; done) | omega | (simp only [List.length_cons, List.length_nil]; omega)) only [go_sem, ↓reduceIte, Nat.reduceEqDiff, Nat.reduceAdd, Nat.reduceMul, Nat.reduceSub, Int.reduceToNat, Nat.reduceBEq, List.size_toArray, List.length_cons, List.length_nil, Bool.false_and, Bool.true_and, Bool.or_false, Bool.false_or, Bool.and_false, Bool.and_true, s1], by simp (disch := first | (simp only [go_sem, Bool.and_self, eq_self]; done) | omega | (simp only [List.length_cons, List.length_nil]; omega)) only [go_sem, ↓reduceIte, Nat.reduceEqDiff, Nat.reduceAdd, Nat.reduceMul, Nat.reduceSub, Int.reduceToNat, Nat.reduceBEq, List.size_toArray, List.length_cons, List.length_nil, Bool.false_and, Bool.true_and, Bool.or_false, Bool.false_or, Bool.and_false, Bool.and_true, s9], _, by simp (disch := first | (simp only [go_sem, Bool.and_self, eq_self]; done) | omega | (simp only [List.length_cons, List.length_nil]; omega)) only [go_sem, ↓reduceIte, Nat.reduceEqDiff, Nat.reduceAdd, Nat.reduceMul, Nat.reduceSub, Int.reduceToNat, Nat.reduceBEq, List.size_toArray, List.length_cons, List.length_nil, Bool.false_and, Bool.true_and, Bool.or_false, Bool.false_or, Bool.and_false, Bool.and_true]; rfl, ?_⟩
      rw [e1]; exact Own.app _ _ _
    · have hlt' : ¬ ((r.length + j : Nat) : Int) < (c : Int) := by omega
      obtain ⟨h2, z1, _⟩ := sealA_Own how
      have hje : j = c - r.length := by omega
      simp (disch := first | (simp only [go_sem, Bool.and_self, eq_self]; done) | omega | (simp only [List.length_cons, List.length_nil]; omega)) only [go_sem, ↓reduceIte, Nat.reduceEqDiff, Nat.reduceAdd, Nat.reduceMul, Nat.reduceSub, Int.reduceToNat, Nat.reduceBEq, List.size_toArray, List.length_cons, List.length_nil, Bool.false_and, Bool.true_and, Bool.or_false, Bool.false_or, Bool.and_false, Bool.and_true, s1, s8, s9, hlenv, hlt', z1]
      rw [hje]
theorem k38 {a : List (List Int)} (f : Pl a) {d c : Nat} (hd : 1 ≤ d ∧ d ≤ 4) (hc : 1 ≤ c ∧ c ≤ 4) : ConW Try.prog cfg 38 h (some ([LLI a, I c, I d], h')) K = K (.tup [L eC ((planF a d c).getD []), .bool (planF a d c).isSome]) h' := by
  rw [ConW_any (f38_con f hd hc) rfl, importR_two rfl rfl]

def taskB (a : List (List Int)) (d : Int) : Bool := isPlanB a && decide (1 ≤ d ∧ d ≤ 4)
theorem f37_con (a : List (List Int)) (ha : okLL a) (d : Int) : Con Try.prog cfg 37 [LLI a, I d] (.bool (taskB a d)) := by
  have kk1 := fun h h' K => k32 (h := h) (h' := h') (K := K) a ha
  refine Con_intro Try.func37 rfl ok37 (Nat.le_of_ble_eq_true rfl) rfl ?_
  simp only [Try.f37, Option.getD_some, initSt2]
  cases h1 : isPlanB a with
  | false => simp (disch := first | (simp only [go_sem, Bool.and_self, eq_self]; done) | omega | (simp only [List.length_cons, List.length_nil]; omega)) only [go_sem, ↓reduceIte, Nat.reduceEqDiff, Nat.reduceAdd, Nat.reduceMul, Nat.reduceSub, Int.reduceToNat, Nat.reduceBEq, List.size_toArray, List.length_cons, List.length_nil, Bool.false_and, Bool.true_and, Bool.or_false, Bool.false_or, Bool.and_false, Bool.and_true, kk1, h1, taskB, Bool.false_and]
  | true => simp (disch := first | (simp only [go_sem, Bool.and_self, eq_self]; done) | omega | (simp only [List.length_cons, List.length_nil]; omega)) only [go_sem, ↓reduceIte, Nat.reduceEqDiff, Nat.reduceAdd, Nat.reduceMul, Nat.reduceSub, Int.reduceToNat, Nat.reduceBEq, List.size_toArray, List.length_cons, List.length_nil, Bool.false_and, Bool.true_and, Bool.or_false, Bool.false_or, Bool.and_false, Bool.and_true, kk1, h1, taskB, Bool.true_and]
theorem k37 (a : List (List Int)) (ha : okLL a) (d : Int) : ConW Try.prog cfg 37 h (some ([LLI a, I d], h')) K = K (.bool (taskB a d)) h := ConW_num (f37_con a ha d) rfl

/-- Cuts, by the chambers. -/
def cutsOf (a : List (List Int)) (l : List (List Int)) : List (List Int) := (List.range a.length).map fun k => l.map fun x => nth x k
/-- What Plan returns. -/
def planM (a : List (List Int)) (c d : Int) : List (List Int) := if taskB a d && decide (1 ≤ c ∧ c ≤ 4) then (match planF a d.toNat c.toNat with | some l => cutsOf a l | none => []) else []
def planE (a : List (List Int)) (c d : Int) : Int := if taskB a d && decide (1 ≤ c ∧ c ≤ 4) then (if (planF a d.toNat c.toNat).isSome then 0 else 6) else 2

/-- The rows while they are filled: k rows whole, then one of j numbers. -/
def partR (a : List (List Int)) (l : List (List Int)) (k j : Nat) : List (List Int) := (List.range a.length).map fun k' => if k' < k then l.map (fun x => nth x k') else if k' = k then (l.take j).map (fun x => nth x k') else []
theorem partR_len (a l : List (List Int)) (k j : Nat) : (partR a l k j).length = a.length := by simp [partR]
theorem partR_nth {a l : List (List Int)} {k j i : Nat} (hi : i < a.length) : nth (partR a l k j) i = if i < k then l.map (fun x => nth x i) else if i = k then (l.take j).map (fun x => nth x i) else [] := nth_map_range _ _ _ hi
theorem partR_next (a l : List (List Int)) (k : Nat) : partR a l k l.length = partR a l (k + 1) 0 := by
  unfold partR
  refine List.map_congr_left fun i hi => ?_
  rw [List.take_length]
  by_cases h1 : i < k
  · rw [if_pos h1, if_pos (by omega)]
  · rw [if_neg h1]
    by_cases h2 : i = k
    · rw [if_pos h2, if_pos (by omega)]
    · rw [if_neg h2, if_neg (by omega)]
      split <;> simp
theorem partR_set {a l : List (List Int)} {k j : Nat} (hk : k < a.length) (hj : j < l.length) : (partR a l k j).set k ((l.take j).map (fun x => nth x k) ++ [nth (nth l j) k]) = partR a l k (j + 1) := by
  refine list_ext_nth (by simp [partR_len]) fun i hi => ?_
  rw [List.length_set, partR_len] at hi
  rw [nth_set _ _ _ _ (by rw [partR_len]; exact hk), partR_nth hi, partR_nth hi]
  by_cases h : k = i
  · subst h
    rw [if_pos rfl, if_neg (by omega), if_pos rfl, List.take_add_one, nth_get hj]; simp
  · simp only [if_neg h, if_neg (show ¬ i = k from fun e => h e.symm)]
theorem partR_zero (a l : List (List Int)) : partR a l 0 0 = List.replicate a.length [] := by
  refine list_ext_nth (by simp [partR_len]) fun i hi => ?_
  rw [partR_len] at hi
  rw [partR_nth hi, nth_replicate _ _ _ hi, if_neg (by omega)]
  split <;> simp
theorem partR_full (a l : List (List Int)) : partR a l a.length 0 = cutsOf a l := by
  unfold partR cutsOf
  refine List.map_congr_left fun i hi => ?_
  rw [if_pos (List.mem_range.1 hi)]

theorem f20_con (a : List (List Int)) (ha : okLL a) (c d : Int) : Con Try.prog cfg 20 [LLI a, I c, I d] (.tup [LLI (planM a c d), I (planE a c d)]) := by
  have kk1 := fun h h' K => k37 (h := h) (h' := h') (K := K) a ha d
  refine Con_intro Try.func20 rfl ok20 (Nat.le_of_ble_eq_true rfl) rfl ?_
  simp only [Try.f20, Option.getD_some, initSt3]
  cases ht : taskB a d with
  | false =>
    have g1 : planM a c d = [] := by simp only [planM, ht, Bool.false_and]; rfl
    have e2 : planE a c d = 2 := by simp only [planE, ht, Bool.false_and]; rfl
    simp (disch := first | (simp only [go_sem, Bool.and_self, eq_self]; done) | omega | (simp only [List.length_cons, List.length_nil]; omega)) only [go_sem, ↓reduceIte, Nat.reduceEqDiff, Nat.reduceAdd, Nat.reduceMul, Nat.reduceSub, Int.reduceToNat, Nat.reduceBEq, List.size_toArray, List.length_cons, List.length_nil, Bool.false_and, Bool.true_and, Bool.or_false, Bool.false_or, Bool.and_false, Bool.and_true, kk1, ht, g1, e2]
    rfl
  | true =>
  by_cases hc : 1 ≤ c ∧ c ≤ 4
  case neg =>
    have g1 : planM a c d = [] := by simp only [planM, decide_eq_false hc, Bool.and_false]; rfl
    have e2 : planE a c d = 2 := by simp only [planE, decide_eq_false hc, Bool.and_false]; rfl
    simp (disch := first | (simp only [go_sem, Bool.and_self, eq_self]; done) | omega | (simp only [List.length_cons, List.length_nil]; omega)) only [go_sem, ↓reduceIte, Nat.reduceEqDiff, Nat.reduceAdd, Nat.reduceMul, Nat.reduceSub, Int.reduceToNat, Nat.reduceBEq, List.size_toArray, List.length_cons, List.length_nil, Bool.false_and, Bool.true_and, Bool.or_false, Bool.false_or, Bool.and_false, Bool.and_true, kk1, ht, decide_eq_false hc, g1, e2]
    rfl
  have ht' := ht
  simp only [taskB, Bool.and_eq_true, decide_eq_true_eq] at ht'
  have f := Pl.of ht'.1
  obtain ⟨dn, rfl⟩ : ∃ dn : Nat, d = dn := ⟨d.toNat, by omega⟩
  obtain ⟨cn, rfl⟩ : ∃ cn : Nat, c = cn := ⟨c.toNat, by omega⟩
  have kk2 := fun h h' K => k38 (h := h) (h' := h') (K := K) f (d := dn) (c := cn) (by omega) (by omega)
  have hk := f.keys
  cases hp : planF a dn cn with
  | none =>
    have g1 : planM a cn dn = [] := by simp only [planM, ht, decide_eq_true hc, Bool.and_self, if_true, Int.toNat_natCast, hp]
    have e2 : planE a cn dn = 6 := by simp only [planE, ht, decide_eq_true hc, Bool.and_self, if_true, Int.toNat_natCast, hp, Option.isSome_none]; rfl
    simp (disch := first | (simp only [go_sem, Bool.and_self, eq_self]; done) | omega | (simp only [List.length_cons, List.length_nil]; omega)) only [go_sem, ↓reduceIte, Nat.reduceEqDiff, Nat.reduceAdd, Nat.reduceMul, Nat.reduceSub, Int.reduceToNat, Nat.reduceBEq, List.size_toArray, List.length_cons, List.length_nil, Bool.false_and, Bool.true_and, Bool.or_false, Bool.false_or, Bool.and_false, Bool.and_true, kk1, ht, decide_eq_true hc, kk2, hp, Option.isSome_none, g1, e2]
    rfl
  | some l =>
    have g1 : planM a cn dn = cutsOf a l := by simp only [planM, ht, decide_eq_true hc, Bool.and_self, if_true, Int.toNat_natCast, hp]
    have e2 : planE a cn dn = 0 := by simp only [planE, ht, decide_eq_true hc, Bool.and_self, if_true, Int.toNat_natCast, hp, Option.isSome_some]
    have hll : l.length = cn := by
      rw [planF] at hp
      obtain ⟨r, h1, rfl⟩ := Option.map_eq_some_iff.1 hp
      have := covF_len h1
      simp; omega
    have hmk := makeB_sl (P := Try.prog) (h := Hp.empty) 27 (a.length : Int) isz27 ibytes27 izero27 (by omega) (by omega)
    simp (disch := first | (simp only [go_sem, Bool.and_self, eq_self]; done) | omega | (simp only [List.length_cons, List.length_nil]; omega)) only [go_sem, ↓reduceIte, Nat.reduceEqDiff, Nat.reduceAdd, Nat.reduceMul, Nat.reduceSub, Int.reduceToNat, Nat.reduceBEq, List.size_toArray, List.length_cons, List.length_nil, Bool.false_and, Bool.true_and, Bool.or_false, Bool.false_or, Bool.and_false, Bool.and_true, kk1, ht, decide_eq_true hc, kk2, hp, Option.isSome_some, Option.getD_some, g1, e2, hmk]
    refine WP_for 37 a.length (fun k st h => st 8 = L eC l ∧ st 10 = .sl 0 0 a.length 1 ∧ st 36 = I a.length ∧ 1 ≤ h.nx ∧ ∃ flat, h.bl 0 = some (.cells false true flat) ∧ RowsAt (e1 I) 1 h flat (partR a l k 0) ∧ ∀ (j id off n s : Nat), flat[j]? = some (AV.sl id off n s) → id ≠ 0)
      (by simp (disch := first | (simp only [go_sem, Bool.and_self, eq_self]; done) | omega | (simp only [List.length_cons, List.length_nil]; omega)) only [go_sem, ↓reduceIte, Nat.reduceEqDiff, Nat.reduceAdd, Nat.reduceMul, Nat.reduceSub, Int.reduceToNat, Nat.reduceBEq, List.size_toArray, List.length_cons, List.length_nil, Bool.false_and, Bool.true_and, Bool.or_false, Bool.false_or, Bool.and_false, Bool.and_true]) ⟨by simp (disch := first | (simp only [go_sem, Bool.and_self, eq_self]; done) | omega | (simp only [List.length_cons, List.length_nil]; omega)) only [go_sem, ↓reduceIte, Nat.reduceEqDiff, Nat.reduceAdd, Nat.reduceMul, Nat.reduceSub, Int.reduceToNat, Nat.reduceBEq, List.size_toArray, List.length_cons, List.length_nil, Bool.false_and, Bool.true_and, Bool.or_false, Bool.false_or, Bool.and_false, Bool.and_true], by simp (disch := first | (simp only [go_sem, Bool.and_self, eq_self]; done) | omega | (simp only [List.length_cons, List.length_nil]; omega)) only [go_sem, ↓reduceIte, Nat.reduceEqDiff, Nat.reduceAdd, Nat.reduceMul, Nat.reduceSub, Int.reduceToNat, Nat.reduceBEq, List.size_toArray, List.length_cons, List.length_nil, Bool.false_and, Bool.true_and, Bool.or_false, Bool.false_or, Bool.and_false, Bool.and_true], by simp (disch := first | (simp only [go_sem, Bool.and_self, eq_self]; done) | omega | (simp only [List.length_cons, List.length_nil]; omega)) only [go_sem, ↓reduceIte, Nat.reduceEqDiff, Nat.reduceAdd, Nat.reduceMul, Nat.reduceSub, Int.reduceToNat, Nat.reduceBEq, List.size_toArray, List.length_cons, List.length_nil, Bool.false_and, Bool.true_and, Bool.or_false, Bool.false_or, Bool.and_false, Bool.and_true], by simp (disch := first | (simp only [go_sem, Bool.and_self, eq_self]; done) | omega | (simp only [List.length_cons, List.length_nil]; omega)) only [go_sem, ↓reduceIte, Nat.reduceEqDiff, Nat.reduceAdd, Nat.reduceMul, Nat.reduceSub, Int.reduceToNat, Nat.reduceBEq, List.size_toArray, List.length_cons, List.length_nil, Bool.false_and, Bool.true_and, Bool.or_false, Bool.false_or, Bool.and_false, Bool.and_true, Nat.le_refl], _, by simp (disch := first | (simp only [go_sem, Bool.and_self, eq_self]; done) | omega | (simp only [List.length_cons, List.length_nil]; omega)) only [go_sem, ↓reduceIte, Nat.reduceEqDiff, Nat.reduceAdd, Nat.reduceMul, Nat.reduceSub, Int.reduceToNat, Nat.reduceBEq, List.size_toArray, List.length_cons, List.length_nil, Bool.false_and, Bool.true_and, Bool.or_false, Bool.false_or, Bool.and_false, Bool.and_true]; rfl, by rw [partR_zero]; exact RowsAt.nils _, ?_⟩ ?_
    · intro j id off n s hj
      rw [List.getElem?_replicate] at hj
      split at hj <;> cases hj
    rintro k st h hi s37 ⟨s8, s10, s36, hnx, flat, b0, hrows, hne0⟩
    by_cases hlt : k < a.length
    case neg =>
      have hke : k = a.length := by omega
      subst hke
      rw [partR_full] at hrows
      have hcl : (cutsOf a l).length = a.length := by simp [cutsOf]
      have hpu : AV.pureL flat = false := by
        have h0 : 0 < flat.length := by rw [hrows.len, hcl]; omega
        have o := hrows.own 0 _ (List.getElem?_eq_getElem h0)
        have hn0 : nth (cutsOf a l) 0 = l.map fun x => nth x 0 := nth_map_range _ _ _ (by omega)
        obtain ⟨id, q, _⟩ := o.sl (by rw [hn0, List.length_map]; omega)
        cases hfl : flat with
        | nil => rw [hfl] at h0; cases h0
        | cons w ws =>
          simp only [hfl, List.getElem_cons_zero] at q
          rw [q]; rfl
      obtain ⟨h2, z1, _⟩ := sealA_rows hrows 0 a.length false true b0 hcl.symm hpu hne0
      simp (disch := first | (simp only [go_sem, Bool.and_self, eq_self]; done) | omega | (simp only [List.length_cons, List.length_nil]; omega)) only [go_sem, ↓reduceIte, Nat.reduceEqDiff, Nat.reduceAdd, Nat.reduceMul, Nat.reduceSub, Int.reduceToNat, Nat.reduceBEq, List.size_toArray, List.length_cons, List.length_nil, Bool.false_and, Bool.true_and, Bool.or_false, Bool.false_or, Bool.and_false, Bool.and_true, s8, s10, s36, s37, hlt, z1]
    simp (disch := first | (simp only [go_sem, Bool.and_self, eq_self]; done) | omega | (simp only [List.length_cons, List.length_nil]; omega)) only [go_sem, ↓reduceIte, Nat.reduceEqDiff, Nat.reduceAdd, Nat.reduceMul, Nat.reduceSub, Int.reduceToNat, Nat.reduceBEq, List.size_toArray, List.length_cons, List.length_nil, Bool.false_and, Bool.true_and, Bool.or_false, Bool.false_or, Bool.and_false, Bool.and_true, s8, s10, s36, s37, hlt]
    refine WP_for 42 l.length (fun j st h => st 8 = L eC l ∧ st 10 = .sl 0 0 a.length 1 ∧ st 36 = I a.length ∧ st 37 = I k ∧ st 11 = I k ∧ st 40 = L eC l ∧ st 41 = I l.length ∧ 1 ≤ h.nx ∧ ∃ flat, h.bl 0 = some (.cells false true flat) ∧ RowsAt (e1 I) 1 h flat (partR a l k j) ∧ ∀ (j id off n s : Nat), flat[j]? = some (AV.sl id off n s) → id ≠ 0)
      (by simp (disch := first | (simp only [go_sem, Bool.and_self, eq_self]; done) | omega | (simp only [List.length_cons, List.length_nil]; omega)) only [go_sem, ↓reduceIte, Nat.reduceEqDiff, Nat.reduceAdd, Nat.reduceMul, Nat.reduceSub, Int.reduceToNat, Nat.reduceBEq, List.size_toArray, List.length_cons, List.length_nil, Bool.false_and, Bool.true_and, Bool.or_false, Bool.false_or, Bool.and_false, Bool.and_true]) ⟨by simp (disch := first | (simp only [go_sem, Bool.and_self, eq_self]; done) | omega | (simp only [List.length_cons, List.length_nil]; omega)) only [go_sem, ↓reduceIte, Nat.reduceEqDiff, Nat.reduceAdd, Nat.reduceMul, Nat.reduceSub, Int.reduceToNat, Nat.reduceBEq, List.size_toArray, List.length_cons, List.length_nil, Bool.false_and, Bool.true_and, Bool.or_false, Bool.false_or, Bool.and_false, Bool.and_true, s8, s10, s36, s37], by simp (disch := first | (simp only [go_sem, Bool.and_self, eq_self]; done) | omega | (simp only [List.length_cons, List.length_nil]; omega)) only [go_sem, ↓reduceIte, Nat.reduceEqDiff, Nat.reduceAdd, Nat.reduceMul, Nat.reduceSub, Int.reduceToNat, Nat.reduceBEq, List.size_toArray, List.length_cons, List.length_nil, Bool.false_and, Bool.true_and, Bool.or_false, Bool.false_or, Bool.and_false, Bool.and_true, s8, s10, s36, s37], by simp (disch := first | (simp only [go_sem, Bool.and_self, eq_self]; done) | omega | (simp only [List.length_cons, List.length_nil]; omega)) only [go_sem, ↓reduceIte, Nat.reduceEqDiff, Nat.reduceAdd, Nat.reduceMul, Nat.reduceSub, Int.reduceToNat, Nat.reduceBEq, List.size_toArray, List.length_cons, List.length_nil, Bool.false_and, Bool.true_and, Bool.or_false, Bool.false_or, Bool.and_false, Bool.and_true, s8, s10, s36, s37], by simp (disch := first | (simp only [go_sem, Bool.and_self, eq_self]; done) | omega | (simp only [List.length_cons, List.length_nil]; omega)) only [go_sem, ↓reduceIte, Nat.reduceEqDiff, Nat.reduceAdd, Nat.reduceMul, Nat.reduceSub, Int.reduceToNat, Nat.reduceBEq, List.size_toArray, List.length_cons, List.length_nil, Bool.false_and, Bool.true_and, Bool.or_false, Bool.false_or, Bool.and_false, Bool.and_true, s8, s10, s36, s37], by simp (disch := first | (simp only [go_sem, Bool.and_self, eq_self]; done) | omega | (simp only [List.length_cons, List.length_nil]; omega)) only [go_sem, ↓reduceIte, Nat.reduceEqDiff, Nat.reduceAdd, Nat.reduceMul, Nat.reduceSub, Int.reduceToNat, Nat.reduceBEq, List.size_toArray, List.length_cons, List.length_nil, Bool.false_and, Bool.true_and, Bool.or_false, Bool.false_or, Bool.and_false, Bool.and_true, s8, s10, s36, s37], by simp (disch := first | (simp only [go_sem, Bool.and_self, eq_self]; done) | omega | (simp only [List.length_cons, List.length_nil]; omega)) only [go_sem, ↓reduceIte, Nat.reduceEqDiff, Nat.reduceAdd, Nat.reduceMul, Nat.reduceSub, Int.reduceToNat, Nat.reduceBEq, List.size_toArray, List.length_cons, List.length_nil, Bool.false_and, Bool.true_and, Bool.or_false, Bool.false_or, Bool.and_false, Bool.and_true, s8, s10, s36, s37], by simp (disch := first | (simp only [go_sem, Bool.and_self, eq_self]; done) | omega | (simp only [List.length_cons, List.length_nil]; omega)) only [go_sem, ↓reduceIte, Nat.reduceEqDiff, Nat.reduceAdd, Nat.reduceMul, Nat.reduceSub, Int.reduceToNat, Nat.reduceBEq, List.size_toArray, List.length_cons, List.length_nil, Bool.false_and, Bool.true_and, Bool.or_false, Bool.false_or, Bool.and_false, Bool.and_true, s8, s10, s36, s37], hnx, flat, by simp (disch := first | (simp only [go_sem, Bool.and_self, eq_self]; done) | omega | (simp only [List.length_cons, List.length_nil]; omega)) only [go_sem, ↓reduceIte, Nat.reduceEqDiff, Nat.reduceAdd, Nat.reduceMul, Nat.reduceSub, Int.reduceToNat, Nat.reduceBEq, List.size_toArray, List.length_cons, List.length_nil, Bool.false_and, Bool.true_and, Bool.or_false, Bool.false_or, Bool.and_false, Bool.and_true, b0], hrows, hne0⟩ ?_
    rintro j st h hj s42 ⟨s8, s10, s36, s37, s11, s40, s41, hnx, flat, b0, hrows, hne0⟩
    by_cases hjl : j < l.length
    case neg =>
      have hje : j = l.length := by omega
      subst hje
      simp (disch := first | (simp only [go_sem, Bool.and_self, eq_self]; done) | omega | (simp only [List.length_cons, List.length_nil]; omega)) only [go_sem, ↓reduceIte, Nat.reduceEqDiff, Nat.reduceAdd, Nat.reduceMul, Nat.reduceSub, Int.reduceToNat, Nat.reduceBEq, List.size_toArray, List.length_cons, List.length_nil, Bool.false_and, Bool.true_and, Bool.or_false, Bool.false_or, Bool.and_false, Bool.and_true, s8, s10, s36, s37, s11, s40, s41, s42, hjl]
      rw [ForK_normal]
      exact ⟨hlt, by simp (disch := first | (simp only [go_sem, Bool.and_self, eq_self]; done) | omega | (simp only [List.length_cons, List.length_nil]; omega)) only [go_sem, ↓reduceIte, Nat.reduceEqDiff, Nat.reduceAdd, Nat.reduceMul, Nat.reduceSub, Int.reduceToNat, Nat.reduceBEq, List.size_toArray, List.length_cons, List.length_nil, Bool.false_and, Bool.true_and, Bool.or_false, Bool.false_or, Bool.and_false, Bool.and_true, s37], by simp (disch := first | (simp only [go_sem, Bool.and_self, eq_self]; done) | omega | (simp only [List.length_cons, List.length_nil]; omega)) only [go_sem, ↓reduceIte, Nat.reduceEqDiff, Nat.reduceAdd, Nat.reduceMul, Nat.reduceSub, Int.reduceToNat, Nat.reduceBEq, List.size_toArray, List.length_cons, List.length_nil, Bool.false_and, Bool.true_and, Bool.or_false, Bool.false_or, Bool.and_false, Bool.and_true, s8], by simp (disch := first | (simp only [go_sem, Bool.and_self, eq_self]; done) | omega | (simp only [List.length_cons, List.length_nil]; omega)) only [go_sem, ↓reduceIte, Nat.reduceEqDiff, Nat.reduceAdd, Nat.reduceMul, Nat.reduceSub, Int.reduceToNat, Nat.reduceBEq, List.size_toArray, List.length_cons, List.length_nil, Bool.false_and, Bool.true_and, Bool.or_false, Bool.false_or, Bool.and_false, Bool.and_true, s10], by simp (disch := first | (simp only [go_sem, Bool.and_self, eq_self]; done) | omega | (simp only [List.length_cons, List.length_nil]; omega)) only [go_sem, ↓reduceIte, Nat.reduceEqDiff, Nat.reduceAdd, Nat.reduceMul, Nat.reduceSub, Int.reduceToNat, Nat.reduceBEq, List.size_toArray, List.length_cons, List.length_nil, Bool.false_and, Bool.true_and, Bool.or_false, Bool.false_or, Bool.and_false, Bool.and_true, s36], hnx, flat, b0, by rw [← partR_next]; exact hrows, hne0⟩
    have hfll : flat.length = a.length := by rw [hrows.len, partR_len]
    have hk6 : k < 6 := by omega
    have hst2 : ∀ (h : Hp) (id : Nat), storeC h id 0 6 (some (.cells false false [I 0, I 0, I 0, I 0, I 0, I 0])) (eC (nth l j)) = some (.skp, h.put id (some (.cells false false (eC (nth l j))))) := fun h id => storeC_row id false [I 0, I 0, I 0, I 0, I 0, I 0] (nth l j) rfl
    have hld := loadC_row (f := eC) (.array 6 3) rfl (nth l j)
    have hg := eC_get (x := nth l j) hk6
    obtain ⟨v, hv⟩ : ∃ v, flat[k]? = some v := ⟨_, List.getElem?_eq_getElem (by omega)⟩
    have how := hrows.own k v hv
    rw [partR_nth hlt, if_neg (by omega), if_pos rfl] at how
    generalize hG : (h.alloc (.cells false false [I 0, I 0, I 0, I 0, I 0, I 0])).put h.nx (some (.cells false false (eC (nth l j)))) = G
    have hG1 : G.bl h.nx = some (.cells false false (eC (nth l j))) := by rw [← hG]; simp (disch := first | (simp only [go_sem, Bool.and_self, eq_self]; done) | omega | (simp only [List.length_cons, List.length_nil]; omega)) only [go_sem, ↓reduceIte, Nat.reduceEqDiff, Nat.reduceAdd, Nat.reduceMul, Nat.reduceSub, Int.reduceToNat, Nat.reduceBEq, List.size_toArray, List.length_cons, List.length_nil, Bool.false_and, Bool.true_and, Bool.or_false, Bool.false_or, Bool.and_false, Bool.and_true]
    have hG2 : G.nx = h.nx + 1 := by rw [← hG]; simp (disch := first | (simp only [go_sem, Bool.and_self, eq_self]; done) | omega | (simp only [List.length_cons, List.length_nil]; omega)) only [go_sem, ↓reduceIte, Nat.reduceEqDiff, Nat.reduceAdd, Nat.reduceMul, Nat.reduceSub, Int.reduceToNat, Nat.reduceBEq, List.size_toArray, List.length_cons, List.length_nil, Bool.false_and, Bool.true_and, Bool.or_false, Bool.false_or, Bool.and_false, Bool.and_true]
    have hG3 : ∀ id, id < h.nx → G.bl id = h.bl id := by intro id hid; rw [← hG]; simp (disch := first | (simp only [go_sem, Bool.and_self, eq_self]; done) | omega | (simp only [List.length_cons, List.length_nil]; omega)) only [go_sem, ↓reduceIte, Nat.reduceEqDiff, Nat.reduceAdd, Nat.reduceMul, Nat.reduceSub, Int.reduceToNat, Nat.reduceBEq, List.size_toArray, List.length_cons, List.length_nil, Bool.false_and, Bool.true_and, Bool.or_false, Bool.false_or, Bool.and_false, Bool.and_true, Nat.ne_of_lt hid]
    have hG0 : G.bl 0 = some (.cells false true flat) := by rw [hG3 0 (by omega)]; exact b0
    have hrowsG : RowsAt (e1 I) 1 G flat (partR a l k j) := hrows.mono (by omega) fun i id off n s hi => by
      rcases hrows.own i _ hi with ⟨q, _⟩ | ⟨id', q, h1, _⟩
      · cases q
      · cases q; exact hG3 id h1
    have howG := how.mono (h' := G) (by omega) hG3
    have htl : ((l.take j).map fun x => nth x k).length ≤ 4 := by simp; omega
    have hbs := fun h : Hp => bsB_one (P := Try.prog) (h := h) 3 (I (nth (nth l j) k)) (I (nth (nth l j) k)) (I 0) h isz3 izero3 rfl rfl rfl rfl rfl rfl rfl
    have happ := app_one (P := Try.prog) howG 3 8 (I 0) (nth (nth l j) k) isz3 ibytes3 izero3 rfl (by omega) (by omega)
    have n0 : ¬ 0 = h.nx := by omega
    have c0 : (appH G v ((((l.take j).map fun x => nth x k) ++ [nth (nth l j) k]).flatMap (e1 I))).bl 0 = some (.cells false true flat) := by
      rw [appH_bl _ _ _ _ (by omega) (fun id off n s e => by subst e; exact (hne0 k id off n s hv).symm)]; exact hG0
    have hstv : ∀ (h : Hp) (id o n s : Nat), storeC h 0 k 1 (some (.cells false true flat)) [.sl id o n s] = some (.skp, h.put 0 (some (.cells false true (flat.set k (.sl id o n s))))) := fun h id o n s => storeC_one 0 k true flat _ rfl (by omega)
    have hlim : ∀ n, 0 < n → lims (some n) 0 = true := fun n hn => by simp [lims, hn]
    have hlim2 : lims (some (h.nx + 1)) h.nx = true := by simp [lims]
    simp (disch := first | (simp only [go_sem, Bool.and_self, eq_self]; done) | omega | (simp only [List.length_cons, List.length_nil]; omega)) only [go_sem, ↓reduceIte, Nat.reduceEqDiff, Nat.reduceAdd, Nat.reduceMul, Nat.reduceSub, Int.reduceToNat, Nat.reduceBEq, List.size_toArray, List.length_cons, List.length_nil, Bool.false_and, Bool.true_and, Bool.or_false, Bool.false_or, Bool.and_false, Bool.and_true, s8, s10, s36, s37, s11, s40, s41, s42, hjl, hld, hst2, hG, hG0, hG1, hG2, n0, hv, hg, hbs, happ, c0, hstv, appV, hlim, hlim2]
    rw [ForK_normal]
    have hrows2 := hrowsG.app hv (((l.take j).map fun x => nth x k) ++ [nth (nth l j) k]) 0 (.cells false true (flat.set k (appV G (((l.take j).map fun x => nth x k) ++ [nth (nth l j) k]).length 1))) hne0 (by omega)
    rw [partR_set hlt hjl] at hrows2
    unfold appV at hrows2
    refine ⟨hjl, by simp (disch := first | (simp only [go_sem, Bool.and_self, eq_self]; done) | omega | (simp only [List.length_cons, List.length_nil]; omega)) only [go_sem, ↓reduceIte, Nat.reduceEqDiff, Nat.reduceAdd, Nat.reduceMul, Nat.reduceSub, Int.reduceToNat, Nat.reduceBEq, List.size_toArray, List.length_cons, List.length_nil, Bool.false_and, Bool.true_and, Bool.or_false, Bool.false_or, Bool.and_false, Bool.and_true, s42], by simp (disch := first | (simp only [go_sem, Bool.and_self, eq_self]; done) | omega | (simp only [List.length_cons, List.length_nil]; omega)) only [go_sem, ↓reduceIte, Nat.reduceEqDiff, Nat.reduceAdd, Nat.reduceMul, Nat.reduceSub, Int.reduceToNat, Nat.reduceBEq, List.size_toArray, List.length_cons, List.length_nil, Bool.false_and, Bool.true_and, Bool.or_false, Bool.false_or, Bool.and_false, Bool.and_true, s8], by simp (disch := first | (simp only [go_sem, Bool.and_self, eq_self]; done) | omega | (simp only [List.length_cons, List.length_nil]; omega)) only [go_sem, ↓reduceIte, Nat.reduceEqDiff, Nat.reduceAdd, Nat.reduceMul, Nat.reduceSub, Int.reduceToNat, Nat.reduceBEq, List.size_toArray, List.length_cons, List.length_nil, Bool.false_and, Bool.true_and, Bool.or_false, Bool.false_or, Bool.and_false, Bool.and_true, s10], by simp (disch := first | (simp only [go_sem, Bool.and_self, eq_self]; done) | omega | (simp only [List.length_cons, List.length_nil]; omega)) only [go_sem, ↓reduceIte, Nat.reduceEqDiff, Nat.reduceAdd, Nat.reduceMul, Nat.reduceSub, Int.reduceToNat, Nat.reduceBEq, List.size_toArray, List.length_cons, List.length_nil, Bool.false_and, Bool.true_and, Bool.or_false, Bool.false_or, Bool.and_false, Bool.and_true, s36], by simp (disch := first | (simp only [go_sem, Bool.and_self, eq_self]; done) | omega | (simp only [List.length_cons, List.length_nil]; omega)) only [go_sem, ↓reduceIte, Nat.reduceEqDiff, Nat.reduceAdd, Nat.reduceMul, Nat.reduceSub, Int.reduceToNat, Nat.reduceBEq, List.size_toArray, List.length_cons, List.length_nil, Bool.false_and, Bool.true_and, Bool.or_false, Bool.false_or, Bool.and_false, Bool.and_true, s37], by simp (disch := first | (simp only [go_sem, Bool.and_self, eq_self]; done) | omega | (simp only [List.length_cons, List.length_nil]; omega)) only [go_sem, ↓reduceIte, Nat.reduceEqDiff, Nat.reduceAdd, Nat.reduceMul, Nat.reduceSub, Int.reduceToNat, Nat.reduceBEq, List.size_toArray, List.length_cons, List.length_nil, Bool.false_and, Bool.true_and, Bool.or_false, Bool.false_or, Bool.and_false, Bool.and_true, s11], by simp (disch := first | (simp only [go_sem, Bool.and_self, eq_self]; done) | omega | (simp only [List.length_cons, List.length_nil]; omega)) only [go_sem, ↓reduceIte, Nat.reduceEqDiff, Nat.reduceAdd, Nat.reduceMul, Nat.reduceSub, Int.reduceToNat, Nat.reduceBEq, List.size_toArray, List.length_cons, List.length_nil, Bool.false_and, Bool.true_and, Bool.or_false, Bool.false_or, Bool.and_false, Bool.and_true, s40], by simp (disch := first | (simp only [go_sem, Bool.and_self, eq_self]; done) | omega | (simp only [List.length_cons, List.length_nil]; omega)) only [go_sem, ↓reduceIte, Nat.reduceEqDiff, Nat.reduceAdd, Nat.reduceMul, Nat.reduceSub, Int.reduceToNat, Nat.reduceBEq, List.size_toArray, List.length_cons, List.length_nil, Bool.false_and, Bool.true_and, Bool.or_false, Bool.false_or, Bool.and_false, Bool.and_true, s41], by rw [put_nx, appH_nx]; omega, _, by simp (disch := first | (simp only [go_sem, Bool.and_self, eq_self]; done) | omega | (simp only [List.length_cons, List.length_nil]; omega)) only [go_sem, ↓reduceIte, Nat.reduceEqDiff, Nat.reduceAdd, Nat.reduceMul, Nat.reduceSub, Int.reduceToNat, Nat.reduceBEq, List.size_toArray, List.length_cons, List.length_nil, Bool.false_and, Bool.true_and, Bool.or_false, Bool.false_or, Bool.and_false, Bool.and_true]; rfl, ?_, ?_⟩
    · rw [hG2] at hrows2; exact hrows2
    · intro i id off n s hi
      rw [List.getElem?_set] at hi
      split at hi
      · split at hi
        · cases hi; omega
        · cases hi
      · exact hne0 i id off n s hi
end Go.Proofs.Ytkjdnnedncomgaa

set_option linter.unusedVariables false
set_option linter.unusedSimpArgs false
set_option maxRecDepth 10000
namespace Go.Proofs.Ytkjdnnedncomgaa
open Go Go.Am

variable {h h' : Hp} {K : AV → Hp → Prop}

end Go.Proofs.Ytkjdnnedncomgaa

set_option linter.unusedVariables false
set_option linter.unusedSimpArgs false
set_option maxRecDepth 10000
namespace Go.Proofs.Ytkjdnnedncomgaa
open Go Go.Am

variable {h h' : Hp} {K : AV → Hp → Prop}

end Go.Proofs.Ytkjdnnedncomgaa

set_option linter.unusedVariables false
set_option linter.unusedSimpArgs false
set_option maxRecDepth 10000
namespace Go.Proofs.Ytkjdnnedncomgaa
open Go Go.Am

variable {h h' : Hp} {K : AV → Hp → Prop}

/-- Any int, from 0 to n - 1. -/
def modI (x n : Int) : Int := x % 18446744073709551616 % n
theorem modI_bounds (x : Int) {n : Int} (hn : 0 < n) : 0 ≤ modI x n ∧ modI x n < n := ⟨Int.emod_nonneg _ (by omega), Int.emod_lt_of_pos _ hn⟩
theorem m12 (x n : Int) (hx : ok64 x) (h0 : 0 < n) (h1 : n ≤ 9223372036854775807) : ConW Try.prog cfg 12 h (some ([I x, I n], h')) K = K (I (modI x n)) h := k12 x n hx h0 h1

def okM (a : List (List Int)) : Prop := okLL a ∧ ∀ r ∈ a, ∀ x ∈ r, ok64 x
theorem okM.at {a : List (List Int)} (h : okM a) {i j : Nat} (hi : i < a.length) (hj : j < (nth a i).length) : ok64 (at2 a i j) := h.2 _ (nth_mem hi) _ (nth_mem hj)

def tameK (a : List (List Int)) (most : Int) : Int := 1 + modI (a.length - 1) most
def tameL (a : List (List Int)) : Int := if 0 < a.length then 1 + modI ((nth a 0).length - 1) 6 else 6
def tameN (a : List (List Int)) (i : Nat) : Nat := if i < a.length then min (tameL a).toNat (nth a i).length else 0
def tameRow (a : List (List Int)) (i : Nat) : List Int := fillR (tameL a).toNat (fun c => modI (at2 a i c) 2) 0 (tameN a i)
/-- What 'tame' returns. -/
def tameM (a : List (List Int)) (most : Int) : List (List Int) := (List.range (tameK a most).toNat).map (tameRow a)

theorem tameL_bounds (a : List (List Int)) : 1 ≤ tameL a ∧ tameL a ≤ 6 := by
  unfold tameL
  split
  · have := modI_bounds ((nth a 0).length - 1) (n := 6) (by omega); omega
  · omega
theorem tameK_bounds (a : List (List Int)) {most : Int} (hm : 1 ≤ most) : 1 ≤ tameK a most ∧ tameK a most ≤ most := by
  unfold tameK
  have := modI_bounds (a.length - 1) (n := most) (by omega); omega

theorem f11_con (a : List (List Int)) (ha : okM a) (most : Int) (hm : 1 ≤ most ∧ most ≤ 8) : Con Try.prog cfg 11 [LLI a, I most] (LLI (tameM a most)) := by
  have hlen := ha.1.1
  have hL := tameL_bounds a
  have hK := tameK_bounds a hm.1
  refine Con_intro Try.func11 rfl ok11 (Nat.le_of_ble_eq_true rfl) rfl ?_
  simp only [Try.f11, Option.getD_some, initSt2]
  have mk1 := fun h h' K => m12 (h := h) (h' := h') (K := K) ((a.length : Int) - 1) most (by unfold ok64; omega) (by omega) (by omega)
  have hk1 : 1 + modI ((a.length : Int) - 1) most = tameK a most := rfl
  simp (disch := first | (simp only [go_sem, Bool.and_self, eq_self]; done) | omega | (simp only [List.length_cons, List.length_nil]; omega)) only [go_sem, ↓reduceIte, Nat.reduceEqDiff, Nat.reduceAdd, Nat.reduceMul, Nat.reduceSub, Int.reduceToNat, Nat.reduceBEq, List.size_toArray, List.length_cons, List.length_nil, Bool.false_and, Bool.true_and, Bool.or_false, Bool.false_or, Bool.and_false, Bool.and_true, mk1, hk1]
  refine condW_join (fun st h => st 0 = LLI a ∧ st 5 = I (tameK a most) ∧ st 6 = I (tameL a) ∧ h = Hp.empty) (fun hz => ?_) (fun hz => ?_) ?_
  · have hl1 : 1 + modI (((nth a 0).length : Int) - 1) 6 = tameL a := by simp only [tameL]; rw [if_pos (by omega)]
    have hr0 := ha.1.row (show 0 < a.length by omega)
    have mk2 := fun h h' K => m12 (h := h) (h' := h') (K := K) (((nth a 0).length : Int) - 1) 6 (by unfold ok64; omega) (by omega) (by omega)
    simp (disch := first | (simp only [go_sem, Bool.and_self, eq_self]; done) | omega | (simp only [List.length_cons, List.length_nil]; omega)) only [go_sem, ↓reduceIte, Nat.reduceEqDiff, Nat.reduceAdd, Nat.reduceMul, Nat.reduceSub, Int.reduceToNat, Nat.reduceBEq, List.size_toArray, List.length_cons, List.length_nil, Bool.false_and, Bool.true_and, Bool.or_false, Bool.false_or, Bool.and_false, Bool.and_true, mk2, hl1]
  · have hl1 : tameL a = 6 := by simp only [tameL]; rw [if_neg (by omega)]
    simp (disch := first | (simp only [go_sem, Bool.and_self, eq_self]; done) | omega | (simp only [List.length_cons, List.length_nil]; omega)) only [go_sem, ↓reduceIte, Nat.reduceEqDiff, Nat.reduceAdd, Nat.reduceMul, Nat.reduceSub, Int.reduceToNat, Nat.reduceBEq, List.size_toArray, List.length_cons, List.length_nil, Bool.false_and, Bool.true_and, Bool.or_false, Bool.false_or, Bool.and_false, Bool.and_true, hl1]
  rintro st h ⟨s0, s5, s6, rfl⟩
  simp (disch := first | (simp only [go_sem, Bool.and_self, eq_self]; done) | omega | (simp only [List.length_cons, List.length_nil]; omega)) only [go_sem, ↓reduceIte, Nat.reduceEqDiff, Nat.reduceAdd, Nat.reduceMul, Nat.reduceSub, Int.reduceToNat, Nat.reduceBEq, List.size_toArray, List.length_cons, List.length_nil, Bool.false_and, Bool.true_and, Bool.or_false, Bool.false_or, Bool.and_false, Bool.and_true, s0, s5, s6]
  refine WP_for 8 (tameK a most).toNat (fun i st h => st 0 = LLI a ∧ st 5 = I (tameK a most) ∧ st 6 = I (tameL a) ∧ ∃ v, st 7 = v ∧ Own (e1 LI) 1 h v ((List.range i).map (tameRow a)))
    (by simp (disch := first | (simp only [go_sem, Bool.and_self, eq_self]; done) | omega | (simp only [List.length_cons, List.length_nil]; omega)) only [go_sem, ↓reduceIte, Nat.reduceEqDiff, Nat.reduceAdd, Nat.reduceMul, Nat.reduceSub, Int.reduceToNat, Nat.reduceBEq, List.size_toArray, List.length_cons, List.length_nil, Bool.false_and, Bool.true_and, Bool.or_false, Bool.false_or, Bool.and_false, Bool.and_true]) ⟨by simp (disch := first | (simp only [go_sem, Bool.and_self, eq_self]; done) | omega | (simp only [List.length_cons, List.length_nil]; omega)) only [go_sem, ↓reduceIte, Nat.reduceEqDiff, Nat.reduceAdd, Nat.reduceMul, Nat.reduceSub, Int.reduceToNat, Nat.reduceBEq, List.size_toArray, List.length_cons, List.length_nil, Bool.false_and, Bool.true_and, Bool.or_false, Bool.false_or, Bool.and_false, Bool.and_true, s0], by simp (disch := first | (simp only [go_sem, Bool.and_self, eq_self]; done) | omega | (simp only [List.length_cons, List.length_nil]; omega)) only [go_sem, ↓reduceIte, Nat.reduceEqDiff, Nat.reduceAdd, Nat.reduceMul, Nat.reduceSub, Int.reduceToNat, Nat.reduceBEq, List.size_toArray, List.length_cons, List.length_nil, Bool.false_and, Bool.true_and, Bool.or_false, Bool.false_or, Bool.and_false, Bool.and_true, s5], by simp (disch := first | (simp only [go_sem, Bool.and_self, eq_self]; done) | omega | (simp only [List.length_cons, List.length_nil]; omega)) only [go_sem, ↓reduceIte, Nat.reduceEqDiff, Nat.reduceAdd, Nat.reduceMul, Nat.reduceSub, Int.reduceToNat, Nat.reduceBEq, List.size_toArray, List.length_cons, List.length_nil, Bool.false_and, Bool.true_and, Bool.or_false, Bool.false_or, Bool.and_false, Bool.and_true, s6], .nil, by simp (disch := first | (simp only [go_sem, Bool.and_self, eq_self]; done) | omega | (simp only [List.length_cons, List.length_nil]; omega)) only [go_sem, ↓reduceIte, Nat.reduceEqDiff, Nat.reduceAdd, Nat.reduceMul, Nat.reduceSub, Int.reduceToNat, Nat.reduceBEq, List.size_toArray, List.length_cons, List.length_nil, Bool.false_and, Bool.true_and, Bool.or_false, Bool.false_or, Bool.and_false, Bool.and_true], .inl ⟨rfl, rfl⟩⟩ ?_
  rintro i st h hi s8 ⟨s0, s5, s6, v, s7, how⟩
  by_cases hlt : (i : Int) < tameK a most
  case neg =>
    have hik : i = (tameK a most).toNat := by omega
    simp (disch := first | (simp only [go_sem, Bool.and_self, eq_self]; done) | omega | (simp only [List.length_cons, List.length_nil]; omega)) only [go_sem, ↓reduceIte, Nat.reduceEqDiff, Nat.reduceAdd, Nat.reduceMul, Nat.reduceSub, Int.reduceToNat, Nat.reduceBEq, List.size_toArray, List.length_cons, List.length_nil, Bool.false_and, Bool.true_and, Bool.or_false, Bool.false_or, Bool.and_false, Bool.and_true, s8, s0, s5, s6, s7, hlt]
    rw [hik] at how
    exact export_Own (f := e1 LI) 22 how
  have hmk := fun h => makeB_int (P := Try.prog) (h := h) 3 (tameL a) isz3 ibytes3 izero3 (by omega) (by omega)
  simp (disch := first | (simp only [go_sem, Bool.and_self, eq_self]; done) | omega | (simp only [List.length_cons, List.length_nil]; omega)) only [go_sem, ↓reduceIte, Nat.reduceEqDiff, Nat.reduceAdd, Nat.reduceMul, Nat.reduceSub, Int.reduceToNat, Nat.reduceBEq, List.size_toArray, List.length_cons, List.length_nil, Bool.false_and, Bool.true_and, Bool.or_false, Bool.false_or, Bool.and_false, Bool.and_true, s8, s0, s5, s6, s7, hlt, hmk]
  have hilt : i < (tameK a most).toNat := by omega
  refine WP_cut (fun st g => st 0 = LLI a ∧ st 5 = I (tameK a most) ∧ st 6 = I (tameL a) ∧ st 7 = v ∧ st 8 = I i ∧ st 9 = .sl h.nx 0 (tameL a).toNat 1 ∧ g.nx = h.nx + 1 ∧ (∀ q, q < h.nx → g.bl q = h.bl q) ∧ g.bl h.nx = some (.cells false true ((tameRow a i).flatMap (e1 I)))) ?_ ?_
  · refine WP_for 10 (tameN a i) (fun j st g => st 0 = LLI a ∧ st 5 = I (tameK a most) ∧ st 6 = I (tameL a) ∧ st 7 = v ∧ st 8 = I i ∧ st 9 = .sl h.nx 0 (tameL a).toNat 1 ∧ g.nx = h.nx + 1 ∧ (∀ q, q < h.nx → g.bl q = h.bl q) ∧ g.bl h.nx = some (.cells false true ((fillR (tameL a).toNat (fun c => modI (at2 a i c) 2) 0 j).flatMap (e1 I))))
      (by simp (disch := first | (simp only [go_sem, Bool.and_self, eq_self]; done) | omega | (simp only [List.length_cons, List.length_nil]; omega)) only [go_sem, ↓reduceIte, Nat.reduceEqDiff, Nat.reduceAdd, Nat.reduceMul, Nat.reduceSub, Int.reduceToNat, Nat.reduceBEq, List.size_toArray, List.length_cons, List.length_nil, Bool.false_and, Bool.true_and, Bool.or_false, Bool.false_or, Bool.and_false, Bool.and_true]) ⟨by simp (disch := first | (simp only [go_sem, Bool.and_self, eq_self]; done) | omega | (simp only [List.length_cons, List.length_nil]; omega)) only [go_sem, ↓reduceIte, Nat.reduceEqDiff, Nat.reduceAdd, Nat.reduceMul, Nat.reduceSub, Int.reduceToNat, Nat.reduceBEq, List.size_toArray, List.length_cons, List.length_nil, Bool.false_and, Bool.true_and, Bool.or_false, Bool.false_or, Bool.and_false, Bool.and_true, s0], by simp (disch := first | (simp only [go_sem, Bool.and_self, eq_self]; done) | omega | (simp only [List.length_cons, List.length_nil]; omega)) only [go_sem, ↓reduceIte, Nat.reduceEqDiff, Nat.reduceAdd, Nat.reduceMul, Nat.reduceSub, Int.reduceToNat, Nat.reduceBEq, List.size_toArray, List.length_cons, List.length_nil, Bool.false_and, Bool.true_and, Bool.or_false, Bool.false_or, Bool.and_false, Bool.and_true, s5], by simp (disch := first | (simp only [go_sem, Bool.and_self, eq_self]; done) | omega | (simp only [List.length_cons, List.length_nil]; omega)) only [go_sem, ↓reduceIte, Nat.reduceEqDiff, Nat.reduceAdd, Nat.reduceMul, Nat.reduceSub, Int.reduceToNat, Nat.reduceBEq, List.size_toArray, List.length_cons, List.length_nil, Bool.false_and, Bool.true_and, Bool.or_false, Bool.false_or, Bool.and_false, Bool.and_true, s6], by simp (disch := first | (simp only [go_sem, Bool.and_self, eq_self]; done) | omega | (simp only [List.length_cons, List.length_nil]; omega)) only [go_sem, ↓reduceIte, Nat.reduceEqDiff, Nat.reduceAdd, Nat.reduceMul, Nat.reduceSub, Int.reduceToNat, Nat.reduceBEq, List.size_toArray, List.length_cons, List.length_nil, Bool.false_and, Bool.true_and, Bool.or_false, Bool.false_or, Bool.and_false, Bool.and_true, s7], by simp (disch := first | (simp only [go_sem, Bool.and_self, eq_self]; done) | omega | (simp only [List.length_cons, List.length_nil]; omega)) only [go_sem, ↓reduceIte, Nat.reduceEqDiff, Nat.reduceAdd, Nat.reduceMul, Nat.reduceSub, Int.reduceToNat, Nat.reduceBEq, List.size_toArray, List.length_cons, List.length_nil, Bool.false_and, Bool.true_and, Bool.or_false, Bool.false_or, Bool.and_false, Bool.and_true, s8], by simp (disch := first | (simp only [go_sem, Bool.and_self, eq_self]; done) | omega | (simp only [List.length_cons, List.length_nil]; omega)) only [go_sem, ↓reduceIte, Nat.reduceEqDiff, Nat.reduceAdd, Nat.reduceMul, Nat.reduceSub, Int.reduceToNat, Nat.reduceBEq, List.size_toArray, List.length_cons, List.length_nil, Bool.false_and, Bool.true_and, Bool.or_false, Bool.false_or, Bool.and_false, Bool.and_true], by simp (disch := first | (simp only [go_sem, Bool.and_self, eq_self]; done) | omega | (simp only [List.length_cons, List.length_nil]; omega)) only [go_sem, ↓reduceIte, Nat.reduceEqDiff, Nat.reduceAdd, Nat.reduceMul, Nat.reduceSub, Int.reduceToNat, Nat.reduceBEq, List.size_toArray, List.length_cons, List.length_nil, Bool.false_and, Bool.true_and, Bool.or_false, Bool.false_or, Bool.and_false, Bool.and_true], fun q hq => by simp (disch := first | (simp only [go_sem, Bool.and_self, eq_self]; done) | omega | (simp only [List.length_cons, List.length_nil]; omega)) only [go_sem, ↓reduceIte, Nat.reduceEqDiff, Nat.reduceAdd, Nat.reduceMul, Nat.reduceSub, Int.reduceToNat, Nat.reduceBEq, List.size_toArray, List.length_cons, List.length_nil, Bool.false_and, Bool.true_and, Bool.or_false, Bool.false_or, Bool.and_false, Bool.and_true, Nat.ne_of_lt hq], by simp (disch := first | (simp only [go_sem, Bool.and_self, eq_self]; done) | omega | (simp only [List.length_cons, List.length_nil]; omega)) only [go_sem, ↓reduceIte, Nat.reduceEqDiff, Nat.reduceAdd, Nat.reduceMul, Nat.reduceSub, Int.reduceToNat, Nat.reduceBEq, List.size_toArray, List.length_cons, List.length_nil, Bool.false_and, Bool.true_and, Bool.or_false, Bool.false_or, Bool.and_false, Bool.and_true, fillR_zero]⟩ ?_
    rintro j st g hj s10 ⟨s0, s5, s6, s7, s8, s9, gnx, gfr, gbl⟩
    by_cases hjt : j < tameN a i
    case neg =>
      have hjn : j = tameN a i := by omega
      by_cases c1 : (j : Int) < tameL a
      case neg =>
        simp (disch := first | (simp only [go_sem, Bool.and_self, eq_self]; done) | omega | (simp only [List.length_cons, List.length_nil]; omega)) only [go_sem, ↓reduceIte, Nat.reduceEqDiff, Nat.reduceAdd, Nat.reduceMul, Nat.reduceSub, Int.reduceToNat, Nat.reduceBEq, List.size_toArray, List.length_cons, List.length_nil, Bool.false_and, Bool.true_and, Bool.or_false, Bool.false_or, Bool.and_false, Bool.and_true, s10, s0, s5, s6, s7, s8, s9, c1, gnx, gbl]
        refine ⟨gfr, ?_⟩
        rw [hjn]; rfl
      by_cases c2 : i < a.length
      case neg =>
        simp (disch := first | (simp only [go_sem, Bool.and_self, eq_self]; done) | omega | (simp only [List.length_cons, List.length_nil]; omega)) only [go_sem, ↓reduceIte, Nat.reduceEqDiff, Nat.reduceAdd, Nat.reduceMul, Nat.reduceSub, Int.reduceToNat, Nat.reduceBEq, List.size_toArray, List.length_cons, List.length_nil, Bool.false_and, Bool.true_and, Bool.or_false, Bool.false_or, Bool.and_false, Bool.and_true, s10, s0, s5, s6, s7, s8, s9, c1, c2, gnx, gbl]
        refine ⟨gfr, ?_⟩
        rw [hjn]; rfl
      have c3 : ¬ j < (nth a i).length := by
        unfold tameN at hjn; rw [if_pos c2] at hjn; omega
      simp (disch := first | (simp only [go_sem, Bool.and_self, eq_self]; done) | omega | (simp only [List.length_cons, List.length_nil]; omega)) only [go_sem, ↓reduceIte, Nat.reduceEqDiff, Nat.reduceAdd, Nat.reduceMul, Nat.reduceSub, Int.reduceToNat, Nat.reduceBEq, List.size_toArray, List.length_cons, List.length_nil, Bool.false_and, Bool.true_and, Bool.or_false, Bool.false_or, Bool.and_false, Bool.and_true, s10, s0, s5, s6, s7, s8, s9, c1, c2, c3, gnx, gbl]
      refine ⟨gfr, ?_⟩
      rw [hjn]; rfl
    have hia : i < a.length := by
      unfold tameN at hjt; split at hjt
      · assumption
      · omega
    have hjl : j < (tameL a).toNat ∧ j < (nth a i).length := by
      unfold tameN at hjt; rw [if_pos hia] at hjt; omega
    have hjl1 : (j : Int) < tameL a := by omega
    have hjl2 := hjl.2
    have mk3 := fun h h' K => m12 (h := h) (h' := h') (K := K) (at2 a i j) 2 (ha.at hia hjl2) (by omega) (by omega)
    have hfl := fillR_len (tameL a).toNat (fun c => modI (at2 a i c) 2) 0 j
    have hset := fillR_set (f := fun c => modI (at2 a i c) 2) (z := (0 : Int)) hjl.1
    simp (disch := first | (simp only [go_sem, Bool.and_self, eq_self]; done) | omega | (simp only [List.length_cons, List.length_nil]; omega)) only [go_sem, ↓reduceIte, Nat.reduceEqDiff, Nat.reduceAdd, Nat.reduceMul, Nat.reduceSub, Int.reduceToNat, Nat.reduceBEq, List.size_toArray, List.length_cons, List.length_nil, Bool.false_and, Bool.true_and, Bool.or_false, Bool.false_or, Bool.and_false, Bool.and_true, s10, s0, s5, s6, s7, s8, s9, hjl1, hjl2, hia, mk3, gbl, hset]
    rw [ForK_normal]
    refine ⟨hjt, by simp (disch := first | (simp only [go_sem, Bool.and_self, eq_self]; done) | omega | (simp only [List.length_cons, List.length_nil]; omega)) only [go_sem, ↓reduceIte, Nat.reduceEqDiff, Nat.reduceAdd, Nat.reduceMul, Nat.reduceSub, Int.reduceToNat, Nat.reduceBEq, List.size_toArray, List.length_cons, List.length_nil, Bool.false_and, Bool.true_and, Bool.or_false, Bool.false_or, Bool.and_false, Bool.and_true, s10], by simp (disch := first | (simp only [go_sem, Bool.and_self, eq_self]; done) | omega | (simp only [List.length_cons, List.length_nil]; omega)) only [go_sem, ↓reduceIte, Nat.reduceEqDiff, Nat.reduceAdd, Nat.reduceMul, Nat.reduceSub, Int.reduceToNat, Nat.reduceBEq, List.size_toArray, List.length_cons, List.length_nil, Bool.false_and, Bool.true_and, Bool.or_false, Bool.false_or, Bool.and_false, Bool.and_true, s0], by simp (disch := first | (simp only [go_sem, Bool.and_self, eq_self]; done) | omega | (simp only [List.length_cons, List.length_nil]; omega)) only [go_sem, ↓reduceIte, Nat.reduceEqDiff, Nat.reduceAdd, Nat.reduceMul, Nat.reduceSub, Int.reduceToNat, Nat.reduceBEq, List.size_toArray, List.length_cons, List.length_nil, Bool.false_and, Bool.true_and, Bool.or_false, Bool.false_or, Bool.and_false, Bool.and_true, s5], by simp (disch := first | (simp only [go_sem, Bool.and_self, eq_self]; done) | omega | (simp only [List.length_cons, List.length_nil]; omega)) only [go_sem, ↓reduceIte, Nat.reduceEqDiff, Nat.reduceAdd, Nat.reduceMul, Nat.reduceSub, Int.reduceToNat, Nat.reduceBEq, List.size_toArray, List.length_cons, List.length_nil, Bool.false_and, Bool.true_and, Bool.or_false, Bool.false_or, Bool.and_false, Bool.and_true, s6], by simp (disch := first | (simp only [go_sem, Bool.and_self, eq_self]; done) | omega | (simp only [List.length_cons, List.length_nil]; omega)) only [go_sem, ↓reduceIte, Nat.reduceEqDiff, Nat.reduceAdd, Nat.reduceMul, Nat.reduceSub, Int.reduceToNat, Nat.reduceBEq, List.size_toArray, List.length_cons, List.length_nil, Bool.false_and, Bool.true_and, Bool.or_false, Bool.false_or, Bool.and_false, Bool.and_true, s7], by simp (disch := first | (simp only [go_sem, Bool.and_self, eq_self]; done) | omega | (simp only [List.length_cons, List.length_nil]; omega)) only [go_sem, ↓reduceIte, Nat.reduceEqDiff, Nat.reduceAdd, Nat.reduceMul, Nat.reduceSub, Int.reduceToNat, Nat.reduceBEq, List.size_toArray, List.length_cons, List.length_nil, Bool.false_and, Bool.true_and, Bool.or_false, Bool.false_or, Bool.and_false, Bool.and_true, s8], by simp (disch := first | (simp only [go_sem, Bool.and_self, eq_self]; done) | omega | (simp only [List.length_cons, List.length_nil]; omega)) only [go_sem, ↓reduceIte, Nat.reduceEqDiff, Nat.reduceAdd, Nat.reduceMul, Nat.reduceSub, Int.reduceToNat, Nat.reduceBEq, List.size_toArray, List.length_cons, List.length_nil, Bool.false_and, Bool.true_and, Bool.or_false, Bool.false_or, Bool.and_false, Bool.and_true, s9], by simp (disch := first | (simp only [go_sem, Bool.and_self, eq_self]; done) | omega | (simp only [List.length_cons, List.length_nil]; omega)) only [go_sem, ↓reduceIte, Nat.reduceEqDiff, Nat.reduceAdd, Nat.reduceMul, Nat.reduceSub, Int.reduceToNat, Nat.reduceBEq, List.size_toArray, List.length_cons, List.length_nil, Bool.false_and, Bool.true_and, Bool.or_false, Bool.false_or, Bool.and_false, Bool.and_true, gnx], fun q hq => ?_, by simp (disch := first | (simp only [go_sem, Bool.and_self, eq_self]; done) | omega | (simp only [List.length_cons, List.length_nil]; omega)) only [go_sem, ↓reduceIte, Nat.reduceEqDiff, Nat.reduceAdd, Nat.reduceMul, Nat.reduceSub, Int.reduceToNat, Nat.reduceBEq, List.size_toArray, List.length_cons, List.length_nil, Bool.false_and, Bool.true_and, Bool.or_false, Bool.false_or, Bool.and_false, Bool.and_true]⟩
    simp (disch := first | (simp only [go_sem, Bool.and_self, eq_self]; done) | omega | (simp only [List.length_cons, List.length_nil]; omega)) only [go_sem, ↓reduceIte, Nat.reduceEqDiff, Nat.reduceAdd, Nat.reduceMul, Nat.reduceSub, Int.reduceToNat, Nat.reduceBEq, List.size_toArray, List.length_cons, List.length_nil, Bool.false_and, Bool.true_and, Bool.or_false, Bool.false_or, Bool.and_false, Bool.and_true, Nat.ne_of_lt hq]
    exact gfr q hq
  · rintro st g ⟨s0, s5, s6, s7, s8, s9, gnx, gfr, gbl⟩
    have htl : (tameRow a i).length = (tameL a).toNat := fillR_len _ _ _ _
    have hse : sealA g (.sl h.nx 0 (tameL a).toNat 1) = some (LI (tameRow a i), g.put h.nx (some (.cells true true ((tameRow a i).flatMap (e1 I))))) := by
      simp (disch := first | (simp only [go_sem, Bool.and_self, eq_self]; done) | omega | (simp only [List.length_cons, List.length_nil]; omega)) only [go_sem, ↓reduceIte, Nat.reduceEqDiff, Nat.reduceAdd, Nat.reduceMul, Nat.reduceSub, Int.reduceToNat, Nat.reduceBEq, List.size_toArray, List.length_cons, List.length_nil, Bool.false_and, Bool.true_and, Bool.or_false, Bool.false_or, Bool.and_false, Bool.and_true, gbl, htl]
    have hbs := bsB_one (P := Try.prog) 27 _ (LI (tameRow a i)) .nil _ isz27 izero27 rfl rfl rfl hse rfl rfl (pure_L _)
    have how2 : Own (e1 LI) 1 (g.put h.nx (some (.cells true true ((tameRow a i).flatMap (e1 I))))) v ((List.range i).map (tameRow a)) :=
      how.mono (by rw [put_nx]; omega) fun q hq => by rw [put_bl, if_neg (by omega)]; exact gfr q hq
    have happ := app_one (P := Try.prog) how2 27 24 .nil (tameRow a i) isz27 ibytes27 izero27 rfl (by simp; omega) (by simp; omega)
    simp (disch := first | (simp only [go_sem, Bool.and_self, eq_self]; done) | omega | (simp only [List.length_cons, List.length_nil]; omega)) only [go_sem, ↓reduceIte, Nat.reduceEqDiff, Nat.reduceAdd, Nat.reduceMul, Nat.reduceSub, Int.reduceToNat, Nat.reduceBEq, List.size_toArray, List.length_cons, List.length_nil, Bool.false_and, Bool.true_and, Bool.or_false, Bool.false_or, Bool.and_false, Bool.and_true, s0, s5, s6, s7, s8, s9, hbs, happ]
    rw [ForK_normal]
    refine ⟨hilt, by simp (disch := first | (simp only [go_sem, Bool.and_self, eq_self]; done) | omega | (simp only [List.length_cons, List.length_nil]; omega)) only [go_sem, ↓reduceIte, Nat.reduceEqDiff, Nat.reduceAdd, Nat.reduceMul, Nat.reduceSub, Int.reduceToNat, Nat.reduceBEq, List.size_toArray, List.length_cons, List.length_nil, Bool.false_and, Bool.true_and, Bool.or_false, Bool.false_or, Bool.and_false, Bool.and_true, s8], by simp (disch := first | (simp only [go_sem, Bool.and_self, eq_self]; done) | omega | (simp only [List.length_cons, List.length_nil]; omega)) only [go_sem, ↓reduceIte, Nat.reduceEqDiff, Nat.reduceAdd, Nat.reduceMul, Nat.reduceSub, Int.reduceToNat, Nat.reduceBEq, List.size_toArray, List.length_cons, List.length_nil, Bool.false_and, Bool.true_and, Bool.or_false, Bool.false_or, Bool.and_false, Bool.and_true, s0], by simp (disch := first | (simp only [go_sem, Bool.and_self, eq_self]; done) | omega | (simp only [List.length_cons, List.length_nil]; omega)) only [go_sem, ↓reduceIte, Nat.reduceEqDiff, Nat.reduceAdd, Nat.reduceMul, Nat.reduceSub, Int.reduceToNat, Nat.reduceBEq, List.size_toArray, List.length_cons, List.length_nil, Bool.false_and, Bool.true_and, Bool.or_false, Bool.false_or, Bool.and_false, Bool.and_true, s5], by simp (disch := first | (simp only [go_sem, Bool.and_self, eq_self]; done) | omega | (simp only [List.length_cons, List.length_nil]; omega)) only [go_sem, ↓reduceIte, Nat.reduceEqDiff, Nat.reduceAdd, Nat.reduceMul, Nat.reduceSub, Int.reduceToNat, Nat.reduceBEq, List.size_toArray, List.length_cons, List.length_nil, Bool.false_and, Bool.true_and, Bool.or_false, Bool.false_or, Bool.and_false, Bool.and_true, s6], _, by simp (disch := first | (simp only [go_sem, Bool.and_self, eq_self]; done) | omega | (simp only [List.length_cons, List.length_nil]; omega)) only [go_sem, ↓reduceIte, Nat.reduceEqDiff, Nat.reduceAdd, Nat.reduceMul, Nat.reduceSub, Int.reduceToNat, Nat.reduceBEq, List.size_toArray, List.length_cons, List.length_nil, Bool.false_and, Bool.true_and, Bool.or_false, Bool.false_or, Bool.and_false, Bool.and_true]; rfl, ?_⟩
    rw [← rows_snoc]
    exact Own.app _ _ _
theorem tameM_plan (a : List (List Int)) {most : Int} (hm : 1 ≤ most ∧ most ≤ 6) : isPlanB (tameM a most) = true := by
  have hK := tameK_bounds a hm.1
  have hL := tameL_bounds a
  have hlen : (tameM a most).length = (tameK a most).toNat := by simp [tameM]
  have hrow : ∀ i, i < (tameK a most).toNat → nth (tameM a most) i = tameRow a i := fun i hi => nth_map_range _ _ _ hi
  have hrl : ∀ i, (tameRow a i).length = (tameL a).toNat := fun i => fillR_len _ _ _ _
  have h0 : nth (tameM a most) 0 = tameRow a 0 := hrow 0 (by omega)
  simp only [isPlanB, Bool.and_eq_true, decide_eq_true_eq]
  refine ⟨⟨by omega, by rw [h0, hrl]; omega⟩, all_of_nth fun i hi => ?_⟩
  rw [hlen] at hi
  rw [hrow i hi, h0, hrl, hrl]
  simp only [decide_true, Bool.true_and]
  refine all_of_nth fun j hj => ?_
  rw [hrl] at hj
  rw [tameRow, fillR_nth hj]
  split
  · have := modI_bounds (at2 a i j) (n := 2) (by omega)
    simp only [decide_eq_true_eq]
    omega
  · rfl

/-! ### Cuts -/
end Go.Proofs.Ytkjdnnedncomgaa

set_option linter.unusedVariables false
set_option linter.unusedSimpArgs false
set_option maxRecDepth 10000
namespace Go.Proofs.Ytkjdnnedncomgaa
open Go Go.Am

variable {h h' : Hp} {K : AV → Hp → Prop}

end Go.Proofs.Ytkjdnnedncomgaa

set_option linter.unusedVariables false
set_option linter.unusedSimpArgs false
set_option maxRecDepth 10000
namespace Go.Proofs.Ytkjdnnedncomgaa
open Go Go.Am

variable {h h' : Hp} {K : AV → Hp → Prop}

/-- The pairs of one key that must not be, and are. -/
def wrongRow (a p : List (List Int)) (i n : Nat) : List (Int × Int) := (List.range n).flatMap fun j => if at2 a i j = 0 ∧ opensB a p (nth p i) j = true then [((i : Int), (j : Int))] else []
def wrongL (a p : List (List Int)) (n : Nat) : List (Int × Int) := (List.range n).flatMap fun i => wrongRow a p i (nth a i).length
theorem wrongRow_succ (a p : List (List Int)) (i n : Nat) : wrongRow a p i (n + 1) = wrongRow a p i n ++ (if at2 a i n = 0 ∧ opensB a p (nth p i) n = true then [((i : Int), (n : Int))] else []) := by
  simp [wrongRow, List.range_succ, List.flatMap_append]
theorem wrongL_succ (a p : List (List Int)) (n : Nat) : wrongL a p (n + 1) = wrongL a p n ++ wrongRow a p n (nth a n).length := by
  simp [wrongL, List.range_succ, List.flatMap_append]
theorem wrongRow_len (a p : List (List Int)) (i n : Nat) : (wrongRow a p i n).length ≤ n := by
  induction n with
  | zero => simp [wrongRow]
  | succ n ih =>
    rw [wrongRow_succ, List.length_append]
    split <;> simp <;> omega
theorem wrongL_len {a p : List (List Int)} {d : Int} (f : Fit a p d) : ∀ {n : Nat}, n ≤ a.length → (wrongL a p n).length ≤ 6 * n
  | 0, _ => by simp [wrongL]
  | n + 1, hn => by
    have ih := wrongL_len f (n := n) (by omega)
    have := wrongRow_len a p n (nth a n).length
    have := f.row n (by omega)
    have := f.locks
    rw [wrongL_succ, List.length_append]
    omega

end Go.Proofs.Ytkjdnnedncomgaa

set_option linter.unusedVariables false
set_option linter.unusedSimpArgs false
set_option maxRecDepth 10000
namespace Go.Proofs.Ytkjdnnedncomgaa
open Go Go.Am

variable {h h' : Hp} {K : AV → Hp → Prop}

/-! ### The statements' own comparisons, the reference -/
end Go.Proofs.Ytkjdnnedncomgaa

set_option linter.unusedVariables false
set_option linter.unusedSimpArgs false
set_option maxRecDepth 10000
namespace Go.Proofs.Ytkjdnnedncomgaa
open Go Go.Am

variable {h h' : Hp} {K : AV → Hp → Prop}

theorem f24_con {a p : List (List Int)} {d : Int} (f : Fit a p d) : Con Try.prog cfg 24 [LLI a, LLI p] (LP (wrongL a p a.length)) := by
  have hk := f.keys
  have hs := f.same
  have hlo := f.locks
  have hch := f.cham
  refine Con_intro Try.func24 rfl ok24 (Nat.le_of_ble_eq_true rfl) rfl ?_
  simp only [Try.f24, Option.getD_some, initSt2]
  simp (disch := first | (simp only [go_sem, Bool.and_self, eq_self]; done) | omega | (simp only [List.length_cons, List.length_nil]; omega)) only [go_sem, ↓reduceIte, Nat.reduceEqDiff, Nat.reduceAdd, Nat.reduceMul, Nat.reduceSub, Int.reduceToNat, Nat.reduceBEq, List.size_toArray, List.length_cons, List.length_nil, Bool.false_and, Bool.true_and, Bool.or_false, Bool.false_or, Bool.and_false, Bool.and_true]
  refine WP_for 6 a.length (fun i st h => st 0 = LLI a ∧ st 1 = LLI p ∧ ∃ v, st 5 = v ∧ Own eP 2 h v (wrongL a p i)) (by simp (disch := first | (simp only [go_sem, Bool.and_self, eq_self]; done) | omega | (simp only [List.length_cons, List.length_nil]; omega)) only [go_sem, ↓reduceIte, Nat.reduceEqDiff, Nat.reduceAdd, Nat.reduceMul, Nat.reduceSub, Int.reduceToNat, Nat.reduceBEq, List.size_toArray, List.length_cons, List.length_nil, Bool.false_and, Bool.true_and, Bool.or_false, Bool.false_or, Bool.and_false, Bool.and_true]) ⟨by simp (disch := first | (simp only [go_sem, Bool.and_self, eq_self]; done) | omega | (simp only [List.length_cons, List.length_nil]; omega)) only [go_sem, ↓reduceIte, Nat.reduceEqDiff, Nat.reduceAdd, Nat.reduceMul, Nat.reduceSub, Int.reduceToNat, Nat.reduceBEq, List.size_toArray, List.length_cons, List.length_nil, Bool.false_and, Bool.true_and, Bool.or_false, Bool.false_or, Bool.and_false, Bool.and_true], by simp (disch := first | (simp only [go_sem, Bool.and_self, eq_self]; done) | omega | (simp only [List.length_cons, List.length_nil]; omega)) only [go_sem, ↓reduceIte, Nat.reduceEqDiff, Nat.reduceAdd, Nat.reduceMul, Nat.reduceSub, Int.reduceToNat, Nat.reduceBEq, List.size_toArray, List.length_cons, List.length_nil, Bool.false_and, Bool.true_and, Bool.or_false, Bool.false_or, Bool.and_false, Bool.and_true], .nil, by simp (disch := first | (simp only [go_sem, Bool.and_self, eq_self]; done) | omega | (simp only [List.length_cons, List.length_nil]; omega)) only [go_sem, ↓reduceIte, Nat.reduceEqDiff, Nat.reduceAdd, Nat.reduceMul, Nat.reduceSub, Int.reduceToNat, Nat.reduceBEq, List.size_toArray, List.length_cons, List.length_nil, Bool.false_and, Bool.true_and, Bool.or_false, Bool.false_or, Bool.and_false, Bool.and_true], .inl ⟨rfl, rfl⟩⟩ ?_
  rintro i st h hi s6 ⟨s0, s1, v, s5, how⟩
  by_cases hlt : i < a.length
  case neg =>
    have hie : i = a.length := by omega
    subst hie
    simp (disch := first | (simp only [go_sem, Bool.and_self, eq_self]; done) | omega | (simp only [List.length_cons, List.length_nil]; omega)) only [go_sem, ↓reduceIte, Nat.reduceEqDiff, Nat.reduceAdd, Nat.reduceMul, Nat.reduceSub, Int.reduceToNat, Nat.reduceBEq, List.size_toArray, List.length_cons, List.length_nil, Bool.false_and, Bool.true_and, Bool.or_false, Bool.false_or, Bool.and_false, Bool.and_true, s6, s0, s1, s5, hlt]
    exact export_Own (f := eP) 43 how
  have hlp : i < p.length := by omega
  have hrow := f.row i hlt
  have hcr := f.crow i hlt
  simp (disch := first | (simp only [go_sem, Bool.and_self, eq_self]; done) | omega | (simp only [List.length_cons, List.length_nil]; omega)) only [go_sem, ↓reduceIte, Nat.reduceEqDiff, Nat.reduceAdd, Nat.reduceMul, Nat.reduceSub, Int.reduceToNat, Nat.reduceBEq, List.size_toArray, List.length_cons, List.length_nil, Bool.false_and, Bool.true_and, Bool.or_false, Bool.false_or, Bool.and_false, Bool.and_true, s6, s0, s1, s5, hlt]
  refine WP_cut (fun st h => st 0 = LLI a ∧ st 1 = LLI p ∧ st 6 = I i ∧ ∃ v, st 5 = v ∧ Own eP 2 h v (wrongL a p (i + 1))) ?_ ?_
  · refine WP_for 7 (nth a i).length (fun j st h => st 0 = LLI a ∧ st 1 = LLI p ∧ st 6 = I i ∧ ∃ v, st 5 = v ∧ Own eP 2 h v (wrongL a p i ++ wrongRow a p i j))
      (by simp (disch := first | (simp only [go_sem, Bool.and_self, eq_self]; done) | omega | (simp only [List.length_cons, List.length_nil]; omega)) only [go_sem, ↓reduceIte, Nat.reduceEqDiff, Nat.reduceAdd, Nat.reduceMul, Nat.reduceSub, Int.reduceToNat, Nat.reduceBEq, List.size_toArray, List.length_cons, List.length_nil, Bool.false_and, Bool.true_and, Bool.or_false, Bool.false_or, Bool.and_false, Bool.and_true]) ⟨by simp (disch := first | (simp only [go_sem, Bool.and_self, eq_self]; done) | omega | (simp only [List.length_cons, List.length_nil]; omega)) only [go_sem, ↓reduceIte, Nat.reduceEqDiff, Nat.reduceAdd, Nat.reduceMul, Nat.reduceSub, Int.reduceToNat, Nat.reduceBEq, List.size_toArray, List.length_cons, List.length_nil, Bool.false_and, Bool.true_and, Bool.or_false, Bool.false_or, Bool.and_false, Bool.and_true, s0], by simp (disch := first | (simp only [go_sem, Bool.and_self, eq_self]; done) | omega | (simp only [List.length_cons, List.length_nil]; omega)) only [go_sem, ↓reduceIte, Nat.reduceEqDiff, Nat.reduceAdd, Nat.reduceMul, Nat.reduceSub, Int.reduceToNat, Nat.reduceBEq, List.size_toArray, List.length_cons, List.length_nil, Bool.false_and, Bool.true_and, Bool.or_false, Bool.false_or, Bool.and_false, Bool.and_true, s1], by simp (disch := first | (simp only [go_sem, Bool.and_self, eq_self]; done) | omega | (simp only [List.length_cons, List.length_nil]; omega)) only [go_sem, ↓reduceIte, Nat.reduceEqDiff, Nat.reduceAdd, Nat.reduceMul, Nat.reduceSub, Int.reduceToNat, Nat.reduceBEq, List.size_toArray, List.length_cons, List.length_nil, Bool.false_and, Bool.true_and, Bool.or_false, Bool.false_or, Bool.and_false, Bool.and_true, s6], v, by simp (disch := first | (simp only [go_sem, Bool.and_self, eq_self]; done) | omega | (simp only [List.length_cons, List.length_nil]; omega)) only [go_sem, ↓reduceIte, Nat.reduceEqDiff, Nat.reduceAdd, Nat.reduceMul, Nat.reduceSub, Int.reduceToNat, Nat.reduceBEq, List.size_toArray, List.length_cons, List.length_nil, Bool.false_and, Bool.true_and, Bool.or_false, Bool.false_or, Bool.and_false, Bool.and_true, s5], by rw [show wrongRow a p i 0 = [] from rfl, List.append_nil]; exact how⟩ ?_
    rintro j st h hj s7 ⟨s0, s1, s6, v, s5, how⟩
    by_cases hjt : j < (nth a i).length
    case neg =>
      have hje : j = (nth a i).length := by omega
      simp (disch := first | (simp only [go_sem, Bool.and_self, eq_self]; done) | omega | (simp only [List.length_cons, List.length_nil]; omega)) only [go_sem, ↓reduceIte, Nat.reduceEqDiff, Nat.reduceAdd, Nat.reduceMul, Nat.reduceSub, Int.reduceToNat, Nat.reduceBEq, List.size_toArray, List.length_cons, List.length_nil, Bool.false_and, Bool.true_and, Bool.or_false, Bool.false_or, Bool.and_false, Bool.and_true, s7, s0, s1, s6, s5, hlt, hjt]
      exact ⟨v, rfl, by rw [wrongL_succ, ← hje]; exact how⟩
    have hjl : j < (nth a 0).length := by omega
    have wl := wrongL_len f (n := i) (by omega)
    have wr := wrongRow_len a p i j
    by_cases hz : at2 a i j = 0
    case neg =>
      have he : wrongRow a p i (j + 1) = wrongRow a p i j := by rw [wrongRow_succ, if_neg (fun h => hz h.1), List.append_nil]
      simp (disch := first | (simp only [go_sem, Bool.and_self, eq_self]; done) | omega | (simp only [List.length_cons, List.length_nil]; omega)) only [go_sem, ↓reduceIte, Nat.reduceEqDiff, Nat.reduceAdd, Nat.reduceMul, Nat.reduceSub, Int.reduceToNat, Nat.reduceBEq, List.size_toArray, List.length_cons, List.length_nil, Bool.false_and, Bool.true_and, Bool.or_false, Bool.false_or, Bool.and_false, Bool.and_true, s7, s0, s1, s6, s5, hlt, hjt, hz]
      rw [ForK_normal]
      exact ⟨hjt, by simp (disch := first | (simp only [go_sem, Bool.and_self, eq_self]; done) | omega | (simp only [List.length_cons, List.length_nil]; omega)) only [go_sem, ↓reduceIte, Nat.reduceEqDiff, Nat.reduceAdd, Nat.reduceMul, Nat.reduceSub, Int.reduceToNat, Nat.reduceBEq, List.size_toArray, List.length_cons, List.length_nil, Bool.false_and, Bool.true_and, Bool.or_false, Bool.false_or, Bool.and_false, Bool.and_true, s7], by simp (disch := first | (simp only [go_sem, Bool.and_self, eq_self]; done) | omega | (simp only [List.length_cons, List.length_nil]; omega)) only [go_sem, ↓reduceIte, Nat.reduceEqDiff, Nat.reduceAdd, Nat.reduceMul, Nat.reduceSub, Int.reduceToNat, Nat.reduceBEq, List.size_toArray, List.length_cons, List.length_nil, Bool.false_and, Bool.true_and, Bool.or_false, Bool.false_or, Bool.and_false, Bool.and_true, s0], by simp (disch := first | (simp only [go_sem, Bool.and_self, eq_self]; done) | omega | (simp only [List.length_cons, List.length_nil]; omega)) only [go_sem, ↓reduceIte, Nat.reduceEqDiff, Nat.reduceAdd, Nat.reduceMul, Nat.reduceSub, Int.reduceToNat, Nat.reduceBEq, List.size_toArray, List.length_cons, List.length_nil, Bool.false_and, Bool.true_and, Bool.or_false, Bool.false_or, Bool.and_false, Bool.and_true, s1], by simp (disch := first | (simp only [go_sem, Bool.and_self, eq_self]; done) | omega | (simp only [List.length_cons, List.length_nil]; omega)) only [go_sem, ↓reduceIte, Nat.reduceEqDiff, Nat.reduceAdd, Nat.reduceMul, Nat.reduceSub, Int.reduceToNat, Nat.reduceBEq, List.size_toArray, List.length_cons, List.length_nil, Bool.false_and, Bool.true_and, Bool.or_false, Bool.false_or, Bool.and_false, Bool.and_true, s6], v, by simp (disch := first | (simp only [go_sem, Bool.and_self, eq_self]; done) | omega | (simp only [List.length_cons, List.length_nil]; omega)) only [go_sem, ↓reduceIte, Nat.reduceEqDiff, Nat.reduceAdd, Nat.reduceMul, Nat.reduceSub, Int.reduceToNat, Nat.reduceBEq, List.size_toArray, List.length_cons, List.length_nil, Bool.false_and, Bool.true_and, Bool.or_false, Bool.false_or, Bool.and_false, Bool.and_true, s5], by rw [he]; exact how⟩
    have kk := fun h h' K => k15 (h := h) (h' := h') (K := K) a p (nth p i) j f.okA (fun i hi => by rw [f.row i hi]; exact hjl) f.same (fun r hr => by rw [f.crow r hr, hcr]; exact Nat.le_refl _) (by omega) (by omega)
    cases ho : opensB a p (nth p i) j with
    | false =>
      have he : wrongRow a p i (j + 1) = wrongRow a p i j := by rw [wrongRow_succ, if_neg (fun h => by rw [ho] at h; cases h.2), List.append_nil]
      simp (disch := first | (simp only [go_sem, Bool.and_self, eq_self]; done) | omega | (simp only [List.length_cons, List.length_nil]; omega)) only [go_sem, ↓reduceIte, Nat.reduceEqDiff, Nat.reduceAdd, Nat.reduceMul, Nat.reduceSub, Int.reduceToNat, Nat.reduceBEq, List.size_toArray, List.length_cons, List.length_nil, Bool.false_and, Bool.true_and, Bool.or_false, Bool.false_or, Bool.and_false, Bool.and_true, s7, s0, s1, s6, s5, hlt, hlp, hjt, hz, kk, ho]
      rw [ForK_normal]
      exact ⟨hjt, by simp (disch := first | (simp only [go_sem, Bool.and_self, eq_self]; done) | omega | (simp only [List.length_cons, List.length_nil]; omega)) only [go_sem, ↓reduceIte, Nat.reduceEqDiff, Nat.reduceAdd, Nat.reduceMul, Nat.reduceSub, Int.reduceToNat, Nat.reduceBEq, List.size_toArray, List.length_cons, List.length_nil, Bool.false_and, Bool.true_and, Bool.or_false, Bool.false_or, Bool.and_false, Bool.and_true, s7], by simp (disch := first | (simp only [go_sem, Bool.and_self, eq_self]; done) | omega | (simp only [List.length_cons, List.length_nil]; omega)) only [go_sem, ↓reduceIte, Nat.reduceEqDiff, Nat.reduceAdd, Nat.reduceMul, Nat.reduceSub, Int.reduceToNat, Nat.reduceBEq, List.size_toArray, List.length_cons, List.length_nil, Bool.false_and, Bool.true_and, Bool.or_false, Bool.false_or, Bool.and_false, Bool.and_true, s0], by simp (disch := first | (simp only [go_sem, Bool.and_self, eq_self]; done) | omega | (simp only [List.length_cons, List.length_nil]; omega)) only [go_sem, ↓reduceIte, Nat.reduceEqDiff, Nat.reduceAdd, Nat.reduceMul, Nat.reduceSub, Int.reduceToNat, Nat.reduceBEq, List.size_toArray, List.length_cons, List.length_nil, Bool.false_and, Bool.true_and, Bool.or_false, Bool.false_or, Bool.and_false, Bool.and_true, s1], by simp (disch := first | (simp only [go_sem, Bool.and_self, eq_self]; done) | omega | (simp only [List.length_cons, List.length_nil]; omega)) only [go_sem, ↓reduceIte, Nat.reduceEqDiff, Nat.reduceAdd, Nat.reduceMul, Nat.reduceSub, Int.reduceToNat, Nat.reduceBEq, List.size_toArray, List.length_cons, List.length_nil, Bool.false_and, Bool.true_and, Bool.or_false, Bool.false_or, Bool.and_false, Bool.and_true, s6], v, by simp (disch := first | (simp only [go_sem, Bool.and_self, eq_self]; done) | omega | (simp only [List.length_cons, List.length_nil]; omega)) only [go_sem, ↓reduceIte, Nat.reduceEqDiff, Nat.reduceAdd, Nat.reduceMul, Nat.reduceSub, Int.reduceToNat, Nat.reduceBEq, List.size_toArray, List.length_cons, List.length_nil, Bool.false_and, Bool.true_and, Bool.or_false, Bool.false_or, Bool.and_false, Bool.and_true, s5], by rw [he]; exact how⟩
    | true =>
      have he : wrongRow a p i (j + 1) = wrongRow a p i j ++ [((i : Int), (j : Int))] := by rw [wrongRow_succ, if_pos ⟨hz, ho⟩]
      have hbs := bsB_pair (P := Try.prog) (h := h) 23 (i : Int) (j : Int) 0 0 isz23 izero23
      have happ := app_pair (P := Try.prog) how 23 16 (.agg [I 0, I 0]) (i : Int) (j : Int) isz23 ibytes23 izero23 rfl (by rw [List.length_append]; omega) (by rw [List.length_append]; omega)
      simp (disch := first | (simp only [go_sem, Bool.and_self, eq_self]; done) | omega | (simp only [List.length_cons, List.length_nil]; omega)) only [go_sem, ↓reduceIte, Nat.reduceEqDiff, Nat.reduceAdd, Nat.reduceMul, Nat.reduceSub, Int.reduceToNat, Nat.reduceBEq, List.size_toArray, List.length_cons, List.length_nil, Bool.false_and, Bool.true_and, Bool.or_false, Bool.false_or, Bool.and_false, Bool.and_true, s7, s0, s1, s6, s5, hlt, hlp, hjt, hz, kk, ho, build_arr2, hbs, happ]
      rw [ForK_normal]
      refine ⟨hjt, by simp (disch := first | (simp only [go_sem, Bool.and_self, eq_self]; done) | omega | (simp only [List.length_cons, List.length_nil]; omega)) only [go_sem, ↓reduceIte, Nat.reduceEqDiff, Nat.reduceAdd, Nat.reduceMul, Nat.reduceSub, Int.reduceToNat, Nat.reduceBEq, List.size_toArray, List.length_cons, List.length_nil, Bool.false_and, Bool.true_and, Bool.or_false, Bool.false_or, Bool.and_false, Bool.and_true, s7], by simp (disch := first | (simp only [go_sem, Bool.and_self, eq_self]; done) | omega | (simp only [List.length_cons, List.length_nil]; omega)) only [go_sem, ↓reduceIte, Nat.reduceEqDiff, Nat.reduceAdd, Nat.reduceMul, Nat.reduceSub, Int.reduceToNat, Nat.reduceBEq, List.size_toArray, List.length_cons, List.length_nil, Bool.false_and, Bool.true_and, Bool.or_false, Bool.false_or, Bool.and_false, Bool.and_true, s0], by simp (disch := first | (simp only [go_sem, Bool.and_self, eq_self]; done) | omega | (simp only [List.length_cons, List.length_nil]; omega)) only [go_sem, ↓reduceIte, Nat.reduceEqDiff, Nat.reduceAdd, Nat.reduceMul, Nat.reduceSub, Int.reduceToNat, Nat.reduceBEq, List.size_toArray, List.length_cons, List.length_nil, Bool.false_and, Bool.true_and, Bool.or_false, Bool.false_or, Bool.and_false, Bool.and_true, s1], by simp (disch := first | (simp only [go_sem, Bool.and_self, eq_self]; done) | omega | (simp only [List.length_cons, List.length_nil]; omega)) only [go_sem, ↓reduceIte, Nat.reduceEqDiff, Nat.reduceAdd, Nat.reduceMul, Nat.reduceSub, Int.reduceToNat, Nat.reduceBEq, List.size_toArray, List.length_cons, List.length_nil, Bool.false_and, Bool.true_and, Bool.or_false, Bool.false_or, Bool.and_false, Bool.and_true, s6], _, by simp (disch := first | (simp only [go_sem, Bool.and_self, eq_self]; done) | omega | (simp only [List.length_cons, List.length_nil]; omega)) only [go_sem, ↓reduceIte, Nat.reduceEqDiff, Nat.reduceAdd, Nat.reduceMul, Nat.reduceSub, Int.reduceToNat, Nat.reduceBEq, List.size_toArray, List.length_cons, List.length_nil, Bool.false_and, Bool.true_and, Bool.or_false, Bool.false_or, Bool.and_false, Bool.and_true]; rfl, ?_⟩
      rw [he, ← List.append_assoc]
      exact Own.app _ _ _
  rintro st h ⟨s0, s1, s6, v, s5, how⟩
  simp (disch := first | (simp only [go_sem, Bool.and_self, eq_self]; done) | omega | (simp only [List.length_cons, List.length_nil]; omega)) only [go_sem, ↓reduceIte, Nat.reduceEqDiff, Nat.reduceAdd, Nat.reduceMul, Nat.reduceSub, Int.reduceToNat, Nat.reduceBEq, List.size_toArray, List.length_cons, List.length_nil, Bool.false_and, Bool.true_and, Bool.or_false, Bool.false_or, Bool.and_false, Bool.and_true, s6]
  rw [ForK_normal]
  exact ⟨hlt, by simp (disch := first | (simp only [go_sem, Bool.and_self, eq_self]; done) | omega | (simp only [List.length_cons, List.length_nil]; omega)) only [go_sem, ↓reduceIte, Nat.reduceEqDiff, Nat.reduceAdd, Nat.reduceMul, Nat.reduceSub, Int.reduceToNat, Nat.reduceBEq, List.size_toArray, List.length_cons, List.length_nil, Bool.false_and, Bool.true_and, Bool.or_false, Bool.false_or, Bool.and_false, Bool.and_true, s6], by simp (disch := first | (simp only [go_sem, Bool.and_self, eq_self]; done) | omega | (simp only [List.length_cons, List.length_nil]; omega)) only [go_sem, ↓reduceIte, Nat.reduceEqDiff, Nat.reduceAdd, Nat.reduceMul, Nat.reduceSub, Int.reduceToNat, Nat.reduceBEq, List.size_toArray, List.length_cons, List.length_nil, Bool.false_and, Bool.true_and, Bool.or_false, Bool.false_or, Bool.and_false, Bool.and_true, s0], by simp (disch := first | (simp only [go_sem, Bool.and_self, eq_self]; done) | omega | (simp only [List.length_cons, List.length_nil]; omega)) only [go_sem, ↓reduceIte, Nat.reduceEqDiff, Nat.reduceAdd, Nat.reduceMul, Nat.reduceSub, Int.reduceToNat, Nat.reduceBEq, List.size_toArray, List.length_cons, List.length_nil, Bool.false_and, Bool.true_and, Bool.or_false, Bool.false_or, Bool.and_false, Bool.and_true, s1], v, by simp (disch := first | (simp only [go_sem, Bool.and_self, eq_self]; done) | omega | (simp only [List.length_cons, List.length_nil]; omega)) only [go_sem, ↓reduceIte, Nat.reduceEqDiff, Nat.reduceAdd, Nat.reduceMul, Nat.reduceSub, Int.reduceToNat, Nat.reduceBEq, List.size_toArray, List.length_cons, List.length_nil, Bool.false_and, Bool.true_and, Bool.or_false, Bool.false_or, Bool.and_false, Bool.and_true, s5], how⟩
end Go.Proofs.Ytkjdnnedncomgaa

set_option linter.unusedVariables false
set_option linter.unusedSimpArgs false
set_option maxRecDepth 10000
namespace Go.Proofs.Ytkjdnnedncomgaa
open Go Go.Am

variable {h h' : Hp} {K : AV → Hp → Prop}

def rowOk (a : List (List Int)) (lo hi : Int) (r : List Int) : Bool := decide (r.length = (nth a 0).length) && r.all fun x => decide (lo ≤ x ∧ x ≤ hi)

/-- Cuts of any number of depths. -/
def refCutsB (a : List (List Int)) (k d : Int) : Bool := decide ((a.length : Int) = k) && decide (1 ≤ (nth a 0).length ∧ (nth a 0).length ≤ 4) && a.all (rowOk a 1 d)
theorem f23_con (a : List (List Int)) (ha : okLL a) (k d : Int) (hk : 1 ≤ k) : Con Try.prog cfg 23 [I k, LLI a, I d] (.bool (refCutsB a k d)) := by
  have hlen := ha.1
  refine Con_intro Try.func23 rfl ok23 (Nat.le_of_ble_eq_true rfl) rfl ?_
  simp only [Try.f23, Option.getD_some, initSt3]
  by_cases h1 : (a.length : Int) = k
  case neg =>
    have q2 : refCutsB a k d = false := by simp only [refCutsB]; rw [decide_eq_false h1]; rfl
    simp (disch := first | (simp only [go_sem, Bool.and_self, eq_self]; done) | omega | (simp only [List.length_cons, List.length_nil]; omega)) only [go_sem, ↓reduceIte, Nat.reduceEqDiff, Nat.reduceAdd, Nat.reduceMul, Nat.reduceSub, Int.reduceToNat, Nat.reduceBEq, List.size_toArray, List.length_cons, List.length_nil, Bool.false_and, Bool.true_and, Bool.or_false, Bool.false_or, Bool.and_false, Bool.and_true, h1, q2]
  subst h1
  simp (disch := first | (simp only [go_sem, Bool.and_self, eq_self]; done) | omega | (simp only [List.length_cons, List.length_nil]; omega)) only [go_sem, ↓reduceIte, Nat.reduceEqDiff, Nat.reduceAdd, Nat.reduceMul, Nat.reduceSub, Int.reduceToNat, Nat.reduceBEq, List.size_toArray, List.length_cons, List.length_nil, Bool.false_and, Bool.true_and, Bool.or_false, Bool.false_or, Bool.and_false, Bool.and_true]
  refine WP_for 7 a.length (fun i st h => st 0 = I a.length ∧ st 1 = LLI a ∧ st 2 = I d ∧ (0 < i → 1 ≤ (nth a 0).length ∧ (nth a 0).length ≤ 4) ∧ ∀ j, j < i → rowOk a 1 d (nth a j) = true) (by simp (disch := first | (simp only [go_sem, Bool.and_self, eq_self]; done) | omega | (simp only [List.length_cons, List.length_nil]; omega)) only [go_sem, ↓reduceIte, Nat.reduceEqDiff, Nat.reduceAdd, Nat.reduceMul, Nat.reduceSub, Int.reduceToNat, Nat.reduceBEq, List.size_toArray, List.length_cons, List.length_nil, Bool.false_and, Bool.true_and, Bool.or_false, Bool.false_or, Bool.and_false, Bool.and_true]) ⟨by simp (disch := first | (simp only [go_sem, Bool.and_self, eq_self]; done) | omega | (simp only [List.length_cons, List.length_nil]; omega)) only [go_sem, ↓reduceIte, Nat.reduceEqDiff, Nat.reduceAdd, Nat.reduceMul, Nat.reduceSub, Int.reduceToNat, Nat.reduceBEq, List.size_toArray, List.length_cons, List.length_nil, Bool.false_and, Bool.true_and, Bool.or_false, Bool.false_or, Bool.and_false, Bool.and_true], by simp (disch := first | (simp only [go_sem, Bool.and_self, eq_self]; done) | omega | (simp only [List.length_cons, List.length_nil]; omega)) only [go_sem, ↓reduceIte, Nat.reduceEqDiff, Nat.reduceAdd, Nat.reduceMul, Nat.reduceSub, Int.reduceToNat, Nat.reduceBEq, List.size_toArray, List.length_cons, List.length_nil, Bool.false_and, Bool.true_and, Bool.or_false, Bool.false_or, Bool.and_false, Bool.and_true], by simp (disch := first | (simp only [go_sem, Bool.and_self, eq_self]; done) | omega | (simp only [List.length_cons, List.length_nil]; omega)) only [go_sem, ↓reduceIte, Nat.reduceEqDiff, Nat.reduceAdd, Nat.reduceMul, Nat.reduceSub, Int.reduceToNat, Nat.reduceBEq, List.size_toArray, List.length_cons, List.length_nil, Bool.false_and, Bool.true_and, Bool.or_false, Bool.false_or, Bool.and_false, Bool.and_true], by omega, by omega⟩ ?_
  rintro i st h hi s7 ⟨s0, s1, s2, hz, hn⟩
  by_cases hlt : i < a.length
  case neg =>
    have : refCutsB a a.length d = true := by
      simp only [refCutsB, Bool.and_eq_true, decide_eq_true_eq]
      exact ⟨⟨trivial, hz (by omega)⟩, all_of_nth fun j hj => hn j (by omega)⟩
    simp (disch := first | (simp only [go_sem, Bool.and_self, eq_self]; done) | omega | (simp only [List.length_cons, List.length_nil]; omega)) only [go_sem, ↓reduceIte, Nat.reduceEqDiff, Nat.reduceAdd, Nat.reduceMul, Nat.reduceSub, Int.reduceToNat, Nat.reduceBEq, List.size_toArray, List.length_cons, List.length_nil, Bool.false_and, Bool.true_and, Bool.or_false, Bool.false_or, Bool.and_false, Bool.and_true, s7, s0, s1, s2, hlt, this]
  have bad : rowOk a 1 d (nth a i) = false → refCutsB a a.length d = false := by
    intro hb
    have h8 := not_all_of (p := rowOk a 1 d) hlt hb
    show (_ && a.all (rowOk a 1 d)) = false
    rw [h8, Bool.and_false]
  have bad2 : ¬ (1 ≤ (nth a 0).length ∧ (nth a 0).length ≤ 4) → refCutsB a a.length d = false := by
    intro hb
    simp only [refCutsB, decide_eq_false hb, Bool.and_false, Bool.false_and]
  by_cases h3 : ((nth a i).length : Int) < 1
  · have q : refCutsB a a.length d = false := by
      by_cases e : (nth a i).length = (nth a 0).length
      · exact bad2 (by omega)
      · exact bad (by simp only [rowOk, decide_eq_false e, Bool.false_and])
    simp (disch := first | (simp only [go_sem, Bool.and_self, eq_self]; done) | omega | (simp only [List.length_cons, List.length_nil]; omega)) only [go_sem, ↓reduceIte, Nat.reduceEqDiff, Nat.reduceAdd, Nat.reduceMul, Nat.reduceSub, Int.reduceToNat, Nat.reduceBEq, List.size_toArray, List.length_cons, List.length_nil, Bool.false_and, Bool.true_and, Bool.or_false, Bool.false_or, Bool.and_false, Bool.and_true, s7, s0, s1, s2, hlt, h3, q]
  by_cases h4 : (4 : Int) < (nth a i).length
  · have q : refCutsB a a.length d = false := by
      by_cases e : (nth a i).length = (nth a 0).length
      · exact bad2 (by omega)
      · exact bad (by simp only [rowOk, decide_eq_false e, Bool.false_and])
    simp (disch := first | (simp only [go_sem, Bool.and_self, eq_self]; done) | omega | (simp only [List.length_cons, List.length_nil]; omega)) only [go_sem, ↓reduceIte, Nat.reduceEqDiff, Nat.reduceAdd, Nat.reduceMul, Nat.reduceSub, Int.reduceToNat, Nat.reduceBEq, List.size_toArray, List.length_cons, List.length_nil, Bool.false_and, Bool.true_and, Bool.or_false, Bool.false_or, Bool.and_false, Bool.and_true, s7, s0, s1, s2, hlt, h3, h4, q]
  by_cases h5 : (nth a i).length = (nth a 0).length
  case neg =>
    have q : refCutsB a a.length d = false := bad (by simp only [rowOk, decide_eq_false h5, Bool.false_and])
    simp (disch := first | (simp only [go_sem, Bool.and_self, eq_self]; done) | omega | (simp only [List.length_cons, List.length_nil]; omega)) only [go_sem, ↓reduceIte, Nat.reduceEqDiff, Nat.reduceAdd, Nat.reduceMul, Nat.reduceSub, Int.reduceToNat, Nat.reduceBEq, List.size_toArray, List.length_cons, List.length_nil, Bool.false_and, Bool.true_and, Bool.or_false, Bool.false_or, Bool.and_false, Bool.and_true, s7, s0, s1, s2, hlt, h3, h4, h5, q]
  rw [h5] at h3 h4
  simp (disch := first | (simp only [go_sem, Bool.and_self, eq_self]; done) | omega | (simp only [List.length_cons, List.length_nil]; omega)) only [go_sem, ↓reduceIte, Nat.reduceEqDiff, Nat.reduceAdd, Nat.reduceMul, Nat.reduceSub, Int.reduceToNat, Nat.reduceBEq, List.size_toArray, List.length_cons, List.length_nil, Bool.false_and, Bool.true_and, Bool.or_false, Bool.false_or, Bool.and_false, Bool.and_true, s7, s0, s1, s2, hlt, h3, h4, h5]
  refine WP_cut (fun st h => st 0 = I a.length ∧ st 1 = LLI a ∧ st 2 = I d ∧ st 7 = I i ∧ ((nth a i).all fun x => decide (1 ≤ x ∧ x ≤ d)) = true) ?_ ?_
  · refine WP_for 8 (nth a i).length (fun j st h => st 0 = I a.length ∧ st 1 = LLI a ∧ st 2 = I d ∧ st 7 = I i ∧ ∀ c, c < j → 1 ≤ at2 a i c ∧ at2 a i c ≤ d) (by simp (disch := first | (simp only [go_sem, Bool.and_self, eq_self]; done) | omega | (simp only [List.length_cons, List.length_nil]; omega)) only [go_sem, ↓reduceIte, Nat.reduceEqDiff, Nat.reduceAdd, Nat.reduceMul, Nat.reduceSub, Int.reduceToNat, Nat.reduceBEq, List.size_toArray, List.length_cons, List.length_nil, Bool.false_and, Bool.true_and, Bool.or_false, Bool.false_or, Bool.and_false, Bool.and_true]) ⟨by simp (disch := first | (simp only [go_sem, Bool.and_self, eq_self]; done) | omega | (simp only [List.length_cons, List.length_nil]; omega)) only [go_sem, ↓reduceIte, Nat.reduceEqDiff, Nat.reduceAdd, Nat.reduceMul, Nat.reduceSub, Int.reduceToNat, Nat.reduceBEq, List.size_toArray, List.length_cons, List.length_nil, Bool.false_and, Bool.true_and, Bool.or_false, Bool.false_or, Bool.and_false, Bool.and_true, s0], by simp (disch := first | (simp only [go_sem, Bool.and_self, eq_self]; done) | omega | (simp only [List.length_cons, List.length_nil]; omega)) only [go_sem, ↓reduceIte, Nat.reduceEqDiff, Nat.reduceAdd, Nat.reduceMul, Nat.reduceSub, Int.reduceToNat, Nat.reduceBEq, List.size_toArray, List.length_cons, List.length_nil, Bool.false_and, Bool.true_and, Bool.or_false, Bool.false_or, Bool.and_false, Bool.and_true, s1], by simp (disch := first | (simp only [go_sem, Bool.and_self, eq_self]; done) | omega | (simp only [List.length_cons, List.length_nil]; omega)) only [go_sem, ↓reduceIte, Nat.reduceEqDiff, Nat.reduceAdd, Nat.reduceMul, Nat.reduceSub, Int.reduceToNat, Nat.reduceBEq, List.size_toArray, List.length_cons, List.length_nil, Bool.false_and, Bool.true_and, Bool.or_false, Bool.false_or, Bool.and_false, Bool.and_true, s2], by simp (disch := first | (simp only [go_sem, Bool.and_self, eq_self]; done) | omega | (simp only [List.length_cons, List.length_nil]; omega)) only [go_sem, ↓reduceIte, Nat.reduceEqDiff, Nat.reduceAdd, Nat.reduceMul, Nat.reduceSub, Int.reduceToNat, Nat.reduceBEq, List.size_toArray, List.length_cons, List.length_nil, Bool.false_and, Bool.true_and, Bool.or_false, Bool.false_or, Bool.and_false, Bool.and_true, s7], by omega⟩ ?_
    rintro j st h hj s8 ⟨s0, s1, s2, s7, hc⟩
    by_cases hjt : j < (nth a i).length
    case neg =>
      simp (disch := first | (simp only [go_sem, Bool.and_self, eq_self]; done) | omega | (simp only [List.length_cons, List.length_nil]; omega)) only [go_sem, ↓reduceIte, Nat.reduceEqDiff, Nat.reduceAdd, Nat.reduceMul, Nat.reduceSub, Int.reduceToNat, Nat.reduceBEq, List.size_toArray, List.length_cons, List.length_nil, Bool.false_and, Bool.true_and, Bool.or_false, Bool.false_or, Bool.and_false, Bool.and_true, s8, s7, s0, s1, s2, hlt, hjt]
      exact all_of_nth fun c hc' => by simp only [decide_eq_true_eq]; exact hc c (by omega)
    have badx : ¬ (1 ≤ at2 a i j ∧ at2 a i j ≤ d) → refCutsB a a.length d = false := by
      intro hb
      refine bad ?_
      have := not_all_of (p := fun x => decide (1 ≤ x ∧ x ≤ d)) hjt (decide_eq_false hb)
      simp only [rowOk, this, Bool.and_false]
    by_cases h6 : at2 a i j < 1
    · have q := badx (by omega)
      simp (disch := first | (simp only [go_sem, Bool.and_self, eq_self]; done) | omega | (simp only [List.length_cons, List.length_nil]; omega)) only [go_sem, ↓reduceIte, Nat.reduceEqDiff, Nat.reduceAdd, Nat.reduceMul, Nat.reduceSub, Int.reduceToNat, Nat.reduceBEq, List.size_toArray, List.length_cons, List.length_nil, Bool.false_and, Bool.true_and, Bool.or_false, Bool.false_or, Bool.and_false, Bool.and_true, s8, s7, s0, s1, s2, hlt, hjt, h6, q]
    by_cases h7 : d < at2 a i j
    · have q := badx (by omega)
      simp (disch := first | (simp only [go_sem, Bool.and_self, eq_self]; done) | omega | (simp only [List.length_cons, List.length_nil]; omega)) only [go_sem, ↓reduceIte, Nat.reduceEqDiff, Nat.reduceAdd, Nat.reduceMul, Nat.reduceSub, Int.reduceToNat, Nat.reduceBEq, List.size_toArray, List.length_cons, List.length_nil, Bool.false_and, Bool.true_and, Bool.or_false, Bool.false_or, Bool.and_false, Bool.and_true, s8, s7, s0, s1, s2, hlt, hjt, h6, h7, q]
    simp (disch := first | (simp only [go_sem, Bool.and_self, eq_self]; done) | omega | (simp only [List.length_cons, List.length_nil]; omega)) only [go_sem, ↓reduceIte, Nat.reduceEqDiff, Nat.reduceAdd, Nat.reduceMul, Nat.reduceSub, Int.reduceToNat, Nat.reduceBEq, List.size_toArray, List.length_cons, List.length_nil, Bool.false_and, Bool.true_and, Bool.or_false, Bool.false_or, Bool.and_false, Bool.and_true, s8, s7, s0, s1, s2, hlt, hjt, h6, h7]
    rw [ForK_normal]
    refine ⟨hjt, by simp (disch := first | (simp only [go_sem, Bool.and_self, eq_self]; done) | omega | (simp only [List.length_cons, List.length_nil]; omega)) only [go_sem, ↓reduceIte, Nat.reduceEqDiff, Nat.reduceAdd, Nat.reduceMul, Nat.reduceSub, Int.reduceToNat, Nat.reduceBEq, List.size_toArray, List.length_cons, List.length_nil, Bool.false_and, Bool.true_and, Bool.or_false, Bool.false_or, Bool.and_false, Bool.and_true, s8], by simp (disch := first | (simp only [go_sem, Bool.and_self, eq_self]; done) | omega | (simp only [List.length_cons, List.length_nil]; omega)) only [go_sem, ↓reduceIte, Nat.reduceEqDiff, Nat.reduceAdd, Nat.reduceMul, Nat.reduceSub, Int.reduceToNat, Nat.reduceBEq, List.size_toArray, List.length_cons, List.length_nil, Bool.false_and, Bool.true_and, Bool.or_false, Bool.false_or, Bool.and_false, Bool.and_true, s0], by simp (disch := first | (simp only [go_sem, Bool.and_self, eq_self]; done) | omega | (simp only [List.length_cons, List.length_nil]; omega)) only [go_sem, ↓reduceIte, Nat.reduceEqDiff, Nat.reduceAdd, Nat.reduceMul, Nat.reduceSub, Int.reduceToNat, Nat.reduceBEq, List.size_toArray, List.length_cons, List.length_nil, Bool.false_and, Bool.true_and, Bool.or_false, Bool.false_or, Bool.and_false, Bool.and_true, s1], by simp (disch := first | (simp only [go_sem, Bool.and_self, eq_self]; done) | omega | (simp only [List.length_cons, List.length_nil]; omega)) only [go_sem, ↓reduceIte, Nat.reduceEqDiff, Nat.reduceAdd, Nat.reduceMul, Nat.reduceSub, Int.reduceToNat, Nat.reduceBEq, List.size_toArray, List.length_cons, List.length_nil, Bool.false_and, Bool.true_and, Bool.or_false, Bool.false_or, Bool.and_false, Bool.and_true, s2], by simp (disch := first | (simp only [go_sem, Bool.and_self, eq_self]; done) | omega | (simp only [List.length_cons, List.length_nil]; omega)) only [go_sem, ↓reduceIte, Nat.reduceEqDiff, Nat.reduceAdd, Nat.reduceMul, Nat.reduceSub, Int.reduceToNat, Nat.reduceBEq, List.size_toArray, List.length_cons, List.length_nil, Bool.false_and, Bool.true_and, Bool.or_false, Bool.false_or, Bool.and_false, Bool.and_true, s7], fun c hc' => ?_⟩
    rcases Nat.lt_or_ge c j with h | h
    · exact hc c h
    · rw [show c = j by omega]; omega
  rintro st h ⟨s0, s1, s2, s7, hall⟩
  simp (disch := first | (simp only [go_sem, Bool.and_self, eq_self]; done) | omega | (simp only [List.length_cons, List.length_nil]; omega)) only [go_sem, ↓reduceIte, Nat.reduceEqDiff, Nat.reduceAdd, Nat.reduceMul, Nat.reduceSub, Int.reduceToNat, Nat.reduceBEq, List.size_toArray, List.length_cons, List.length_nil, Bool.false_and, Bool.true_and, Bool.or_false, Bool.false_or, Bool.and_false, Bool.and_true, s7]
  rw [ForK_normal]
  refine ⟨hlt, by simp (disch := first | (simp only [go_sem, Bool.and_self, eq_self]; done) | omega | (simp only [List.length_cons, List.length_nil]; omega)) only [go_sem, ↓reduceIte, Nat.reduceEqDiff, Nat.reduceAdd, Nat.reduceMul, Nat.reduceSub, Int.reduceToNat, Nat.reduceBEq, List.size_toArray, List.length_cons, List.length_nil, Bool.false_and, Bool.true_and, Bool.or_false, Bool.false_or, Bool.and_false, Bool.and_true, s7], by simp (disch := first | (simp only [go_sem, Bool.and_self, eq_self]; done) | omega | (simp only [List.length_cons, List.length_nil]; omega)) only [go_sem, ↓reduceIte, Nat.reduceEqDiff, Nat.reduceAdd, Nat.reduceMul, Nat.reduceSub, Int.reduceToNat, Nat.reduceBEq, List.size_toArray, List.length_cons, List.length_nil, Bool.false_and, Bool.true_and, Bool.or_false, Bool.false_or, Bool.and_false, Bool.and_true, s0], by simp (disch := first | (simp only [go_sem, Bool.and_self, eq_self]; done) | omega | (simp only [List.length_cons, List.length_nil]; omega)) only [go_sem, ↓reduceIte, Nat.reduceEqDiff, Nat.reduceAdd, Nat.reduceMul, Nat.reduceSub, Int.reduceToNat, Nat.reduceBEq, List.size_toArray, List.length_cons, List.length_nil, Bool.false_and, Bool.true_and, Bool.or_false, Bool.false_or, Bool.and_false, Bool.and_true, s1], by simp (disch := first | (simp only [go_sem, Bool.and_self, eq_self]; done) | omega | (simp only [List.length_cons, List.length_nil]; omega)) only [go_sem, ↓reduceIte, Nat.reduceEqDiff, Nat.reduceAdd, Nat.reduceMul, Nat.reduceSub, Int.reduceToNat, Nat.reduceBEq, List.size_toArray, List.length_cons, List.length_nil, Bool.false_and, Bool.true_and, Bool.or_false, Bool.false_or, Bool.and_false, Bool.and_true, s2], fun _ => by omega, fun j hj => ?_⟩
  rcases Nat.lt_or_ge j i with h | h
  · exact hn j h
  · rw [show j = i by omega]
    simp only [rowOk, hall, decide_eq_true h5, Bool.and_self]
end Go.Proofs.Ytkjdnnedncomgaa

set_option linter.unusedVariables false
set_option linter.unusedSimpArgs false
set_option maxRecDepth 10000
namespace Go.Proofs.Ytkjdnnedncomgaa
open Go Go.Am

variable {h h' : Hp} {K : AV → Hp → Prop}

def tableRow (a : List (List Int)) (i : Nat) : List Int := (nth a i).take (min (nth a i).length 8)
def tableM (a : List (List Int)) : List (List Int) := (List.range (min a.length 8)).map (tableRow a)

theorem f19_con (a : List (List Int)) (ha : okLL a) : Con Try.prog cfg 19 [LLI a] (LLI (tableM a)) := by
  have hlen := ha.1
  refine Con_intro Try.func19 rfl ok19 (Nat.le_of_ble_eq_true rfl) rfl ?_
  simp only [Try.f19, Option.getD_some, initSt1]
  simp (disch := first | (simp only [go_sem, Bool.and_self, eq_self]; done) | omega | (simp only [List.length_cons, List.length_nil]; omega)) only [go_sem, ↓reduceIte, Nat.reduceEqDiff, Nat.reduceAdd, Nat.reduceMul, Nat.reduceSub, Int.reduceToNat, Nat.reduceBEq, List.size_toArray, List.length_cons, List.length_nil, Bool.false_and, Bool.true_and, Bool.or_false, Bool.false_or, Bool.and_false, Bool.and_true]
  refine WP_for 4 (min a.length 8) (fun i st h => st 0 = LLI a ∧ ∃ v, st 3 = v ∧ Own (e1 LI) 1 h v ((List.range i).map (tableRow a))) (by simp (disch := first | (simp only [go_sem, Bool.and_self, eq_self]; done) | omega | (simp only [List.length_cons, List.length_nil]; omega)) only [go_sem, ↓reduceIte, Nat.reduceEqDiff, Nat.reduceAdd, Nat.reduceMul, Nat.reduceSub, Int.reduceToNat, Nat.reduceBEq, List.size_toArray, List.length_cons, List.length_nil, Bool.false_and, Bool.true_and, Bool.or_false, Bool.false_or, Bool.and_false, Bool.and_true]) ⟨by simp (disch := first | (simp only [go_sem, Bool.and_self, eq_self]; done) | omega | (simp only [List.length_cons, List.length_nil]; omega)) only [go_sem, ↓reduceIte, Nat.reduceEqDiff, Nat.reduceAdd, Nat.reduceMul, Nat.reduceSub, Int.reduceToNat, Nat.reduceBEq, List.size_toArray, List.length_cons, List.length_nil, Bool.false_and, Bool.true_and, Bool.or_false, Bool.false_or, Bool.and_false, Bool.and_true], .nil, by simp (disch := first | (simp only [go_sem, Bool.and_self, eq_self]; done) | omega | (simp only [List.length_cons, List.length_nil]; omega)) only [go_sem, ↓reduceIte, Nat.reduceEqDiff, Nat.reduceAdd, Nat.reduceMul, Nat.reduceSub, Int.reduceToNat, Nat.reduceBEq, List.size_toArray, List.length_cons, List.length_nil, Bool.false_and, Bool.true_and, Bool.or_false, Bool.false_or, Bool.and_false, Bool.and_true], .inl ⟨rfl, rfl⟩⟩ ?_
  rintro i st h hi s4 ⟨s0, v, s3, how⟩
  by_cases hlt : i < a.length
  case neg =>
    have hie : i = min a.length 8 := by omega
    simp (disch := first | (simp only [go_sem, Bool.and_self, eq_self]; done) | omega | (simp only [List.length_cons, List.length_nil]; omega)) only [go_sem, ↓reduceIte, Nat.reduceEqDiff, Nat.reduceAdd, Nat.reduceMul, Nat.reduceSub, Int.reduceToNat, Nat.reduceBEq, List.size_toArray, List.length_cons, List.length_nil, Bool.false_and, Bool.true_and, Bool.or_false, Bool.false_or, Bool.and_false, Bool.and_true, s4, s0, s3, hlt]
    rw [hie] at how
    exact export_Own (f := e1 LI) 22 how
  by_cases h8 : (i : Int) < 8
  case neg =>
    have hie : i = min a.length 8 := by omega
    simp (disch := first | (simp only [go_sem, Bool.and_self, eq_self]; done) | omega | (simp only [List.length_cons, List.length_nil]; omega)) only [go_sem, ↓reduceIte, Nat.reduceEqDiff, Nat.reduceAdd, Nat.reduceMul, Nat.reduceSub, Int.reduceToNat, Nat.reduceBEq, List.size_toArray, List.length_cons, List.length_nil, Bool.false_and, Bool.true_and, Bool.or_false, Bool.false_or, Bool.and_false, Bool.and_true, s4, s0, s3, hlt, h8]
    rw [hie] at how
    exact export_Own (f := e1 LI) 22 how
  have hmin : min ((nth a i).length : Int) 8 = ((min (nth a i).length 8 : Nat) : Int) := by omega
  have htl : (tableRow a i).length = min (nth a i).length 8 := by rw [tableRow, List.length_take]; omega
  have hrow : (nth a i).take (min (nth a i).length 8) = tableRow a i := rfl
  have happ1 := app_nil (P := Try.prog) (h := h) (f := e1 I) 3 8 (I 0) (LI (tableRow a i)) (tableRow a i) isz3 ibytes3 izero3 rfl (cellsOf_L _ _) (lenA_L _ _) (by omega) (by omega)
  have hse : sealA (h.alloc (.cells false true ((tableRow a i).flatMap (e1 I)))) (.sl h.nx 0 (tableRow a i).length 1) = some (LI (tableRow a i), (h.alloc (.cells false true ((tableRow a i).flatMap (e1 I)))).put h.nx (some (.cells true true ((tableRow a i).flatMap (e1 I))))) := by
    simp (disch := first | (simp only [go_sem, Bool.and_self, eq_self]; done) | omega | (simp only [List.length_cons, List.length_nil]; omega)) only [go_sem, ↓reduceIte, Nat.reduceEqDiff, Nat.reduceAdd, Nat.reduceMul, Nat.reduceSub, Int.reduceToNat, Nat.reduceBEq, List.size_toArray, List.length_cons, List.length_nil, Bool.false_and, Bool.true_and, Bool.or_false, Bool.false_or, Bool.and_false, Bool.and_true]
  have hbs := bsB_one (P := Try.prog) 27 _ (LI (tableRow a i)) .nil _ isz27 izero27 rfl rfl rfl hse rfl rfl (pure_L _)
  have how2 : Own (e1 LI) 1 ((h.alloc (.cells false true ((tableRow a i).flatMap (e1 I)))).put h.nx (some (.cells true true ((tableRow a i).flatMap (e1 I))))) v ((List.range i).map (tableRow a)) :=
    how.mono (by rw [put_nx, alloc_nx]; omega) fun q hq => by rw [put_bl, if_neg (by omega), alloc_bl, if_neg (by omega)]
  have happ := app_one (P := Try.prog) how2 27 24 .nil (tableRow a i) isz27 ibytes27 izero27 rfl (by simp; omega) (by simp; omega)
  simp (disch := first | (simp only [go_sem, Bool.and_self, eq_self]; done) | omega | (simp only [List.length_cons, List.length_nil]; omega)) only [go_sem, ↓reduceIte, Nat.reduceEqDiff, Nat.reduceAdd, Nat.reduceMul, Nat.reduceSub, Int.reduceToNat, Nat.reduceBEq, List.size_toArray, List.length_cons, List.length_nil, Bool.false_and, Bool.true_and, Bool.or_false, Bool.false_or, Bool.and_false, Bool.and_true, s4, s0, s3, hlt, h8, hmin, hrow, happ1, hbs, happ]
  rw [ForK_normal]
  refine ⟨by omega, by simp (disch := first | (simp only [go_sem, Bool.and_self, eq_self]; done) | omega | (simp only [List.length_cons, List.length_nil]; omega)) only [go_sem, ↓reduceIte, Nat.reduceEqDiff, Nat.reduceAdd, Nat.reduceMul, Nat.reduceSub, Int.reduceToNat, Nat.reduceBEq, List.size_toArray, List.length_cons, List.length_nil, Bool.false_and, Bool.true_and, Bool.or_false, Bool.false_or, Bool.and_false, Bool.and_true, s4], by simp (disch := first | (simp only [go_sem, Bool.and_self, eq_self]; done) | omega | (simp only [List.length_cons, List.length_nil]; omega)) only [go_sem, ↓reduceIte, Nat.reduceEqDiff, Nat.reduceAdd, Nat.reduceMul, Nat.reduceSub, Int.reduceToNat, Nat.reduceBEq, List.size_toArray, List.length_cons, List.length_nil, Bool.false_and, Bool.true_and, Bool.or_false, Bool.false_or, Bool.and_false, Bool.and_true, s0], _, by simp (disch := first | (simp only [go_sem, Bool.and_self, eq_self]; done) | omega | (simp only [List.length_cons, List.length_nil]; omega)) only [go_sem, ↓reduceIte, Nat.reduceEqDiff, Nat.reduceAdd, Nat.reduceMul, Nat.reduceSub, Int.reduceToNat, Nat.reduceBEq, List.size_toArray, List.length_cons, List.length_nil, Bool.false_and, Bool.true_and, Bool.or_false, Bool.false_or, Bool.and_false, Bool.and_true]; rfl, ?_⟩
  rw [← rows_snoc]
  exact Own.app _ _ _
end Go.Proofs.Ytkjdnnedncomgaa

set_option linter.unusedVariables false
set_option linter.unusedSectionVars false
set_option linter.unusedSimpArgs false
set_option maxRecDepth 10000
namespace Go.Proofs.Ytkjdnnedncomgaa
open Go Go.Am

/-- All of a list together. -/
def orL (l : List Nat) : Nat := l.foldr (· ||| ·) 0
theorem orL_bit (l : List Nat) (i : Nat) : (orL l).testBit i = true ↔ ∃ o ∈ l, o.testBit i = true := by
  induction l with
  | nil => simp [orL]
  | cons x l ih =>
    have e : orL (x :: l) = x ||| orL l := rfl
    rw [e, Nat.testBit_or, Bool.or_eq_true, ih]
    simp
/-! ### The reference's levels -/
/-! ### The sets of one plan -/
section
variable {a : List (List Int)} (f : Pl a)
include f
/-! ### What Plan returns -/
theorem covF_some {d : Int} {l : List (Nat × List Int)} (hl : ∀ p ∈ l, p.1 = blk a p.2 ∧ Dep p.2 a.length d) : ∀ {c need r}, covF l c need = some r → Sub need (orL (r.map (blk a))) ∧ ∀ x ∈ r, Dep x a.length d := by
  intro c
  induction c with
  | zero =>
    intro need r h
    rw [covF] at h
    split at h
    · rename_i h0; cases h; subst h0; exact ⟨fun i hi => by simp at hi, by simp⟩
    · cases h
  | succ c ih =>
    intro need r h
    rw [covF] at h
    split at h
    · rename_i h0; cases h; subst h0; exact ⟨fun i hi => by simp at hi, by simp⟩
    · obtain ⟨x, hx, h1⟩ := List.exists_of_findSome?_eq_some h
      split at h1
      · cases h1
      · obtain ⟨r', h2, rfl⟩ := Option.map_eq_some_iff.1 h1
        obtain ⟨g1, g2⟩ := ih h2
        obtain ⟨e1, e2⟩ := hl x hx
        refine ⟨fun i hi => ?_, fun y hy => ?_⟩
        · rw [orL_bit]
          by_cases hxi : x.1.testBit i = true
          · exact ⟨blk a x.2, by simp, by rw [← e1]; exact hxi⟩
          · have : (diffN need x.1).testBit i = true := by rw [diffN_bit, hi]; simp [hxi]
            obtain ⟨o, h3, h4⟩ := (orL_bit _ i).1 (g1 i this)
            exact ⟨o, by rw [List.map_append]; exact List.mem_append_left _ h3, h4⟩
        · rcases List.mem_append.1 hy with h3 | h3
          · exact g2 y h3
          · simp at h3; subst h3; exact e2
theorem opt_ok (d : Nat) : ∀ p ∈ optF a d, p.1 = blk a p.2 ∧ Dep p.2 a.length d := fun p hp =>
  have h := (List.mem_filter.1 hp).1
  ⟨(accF_ok a d).eq p h, (accF_ok a d).dep p h⟩
theorem ones_dep {d : Int} (hd : 1 ≤ d) : Dep ones a.length d := by
  intro i hi
  have := f.keys
  have : i = 0 ∨ i = 1 ∨ i = 2 ∨ i = 3 ∨ i = 4 ∨ i = 5 := by omega
  rcases this with rfl | rfl | rfl | rfl | rfl | rfl <;> (show (1 : Int) ≤ 1 ∧ (1 : Int) ≤ d; omega)
theorem plan_ok {d c : Nat} (hd : 1 ≤ d ∧ d ≤ 4) {l : List (List Int)} (h : planF a d c = some l) : l.length = c ∧ (∀ x ∈ l, Dep x a.length d) ∧ Sub (badM a) (orL (l.map (blk a))) := by
  rw [planF] at h
  obtain ⟨r, h1, rfl⟩ := Option.map_eq_some_iff.1 h
  have hl := covF_len h1
  obtain ⟨g1, g2⟩ := covF_some f (d := d) (opt_ok f d) h1
  refine ⟨by simp; omega, fun x hx => ?_, fun i hi => ?_⟩
  · rcases List.mem_append.1 hx with h2 | h2
    · exact g2 x h2
    · rw [(List.mem_replicate.1 h2).2]; exact ones_dep f (by omega)
  · obtain ⟨o, h2, h3⟩ := (orL_bit _ i).1 (g1 i hi)
    exact (orL_bit _ i).2 ⟨o, by rw [List.map_append]; exact List.mem_append_left _ h2, h3⟩

section
variable {d : Nat} (hd : 1 ≤ d ∧ d ≤ 4) {l : List (List Int)} (hl : 1 ≤ l.length ∧ l.length ≤ 4) (hdep : ∀ x ∈ l, Dep x a.length d)
include hd hl hdep
theorem cuts_fit : Fit a (cutsOf a l) d := by
  have hk := f.keys
  have hrow : ∀ i, i < a.length → nth (cutsOf a l) i = l.map fun x => nth x i := fun i hi => nth_map_range _ _ _ hi
  have h0 : (nth (cutsOf a l) 0).length = l.length := by rw [hrow 0 (by omega), List.length_map]
  refine ⟨f.keys, f.locks, f.row, f.bit, by omega, by simp [cutsOf], by omega, fun i hi => ?_, fun i c hi hc => ?_⟩
  · rw [h0, hrow i hi, List.length_map]
  · rw [h0] at hc
    show 1 ≤ nth (nth (cutsOf a l) i) c ∧ nth (nth (cutsOf a l) i) c ≤ d
    rw [hrow i hi]
    have : nth (l.map fun x => nth x i) c = nth (nth l c) i := by simp [nth, hc]
    rw [this]
    exact hdep _ (nth_mem hc) i hi
theorem cuts_pin {c : Nat} (hc : c < l.length) (j : Nat) (e : Int) : pinB a (cutsOf a l) j c e = pinB a (col a (nth l c)) j 0 e := by
  rw [Bool.eq_iff_iff]
  simp only [pinB, List.any_eq_true, List.mem_range, Bool.and_eq_true, decide_eq_true_eq]
  have key : ∀ i, i < a.length → at2 (cutsOf a l) i c = at2 (col a (nth l c)) i 0 := by
    intro i hi
    rw [col_at hi]
    show nth (nth (cutsOf a l) i) c = _
    have hrow : nth (cutsOf a l) i = l.map fun x => nth x i := nth_map_range _ _ _ hi
    rw [hrow]
    simp [nth, hc]
  constructor
  · rintro ⟨i, hi, h1, h2⟩; exact ⟨i, hi, h1, by rw [← key i hi]; exact h2⟩
  · rintro ⟨i, hi, h1, h2⟩; exact ⟨i, hi, h1, by rw [key i hi]; exact h2⟩
theorem cuts_right (hs : Sub (badM a) (orL (l.map (blk a)))) : wrongL a (cutsOf a l) a.length = [] := by
  have hk := f.keys
  have hlo := f.locks
  rw [wrongL, List.flatMap_eq_nil_iff]
  intro k hk2
  have hk2 := List.mem_range.1 hk2
  rw [wrongRow, List.flatMap_eq_nil_iff]
  intro j hj
  have hj := List.mem_range.1 hj
  rw [f.row k hk2] at hj
  rw [if_neg]
  rintro ⟨h0, ho⟩
  have hrow : nth (cutsOf a l) k = l.map fun x => nth x k := nth_map_range _ _ _ hk2
  rw [opensB, List.all_eq_true, hrow, List.length_map] at ho
  have hpin : ∀ c, c < l.length → pinB a (col a (nth l c)) j 0 (nth (nth l c) k) = true := by
    intro c hc
    have := ho c (List.mem_range.2 hc)
    rw [cuts_pin f hd hl hdep hc] at this
    have e : nth (l.map fun x => nth x k) c = nth (nth l c) k := by simp [nth, hc]
    rwa [e] at this
  by_cases hb : ((List.range a.length).any fun o => decide (at2 a o j = 1)) = true
  · have hbit : (badM a).testBit (k * 6 + j) = true := by
      rw [bad_bits f k j (by omega)]
      simp only [badP, decide_eq_true hk2, decide_eq_true hj, decide_eq_true h0, Bool.true_and]
      exact hb
    obtain ⟨o, h1, h2⟩ := (orL_bit _ _).1 (hs _ hbit)
    obtain ⟨x, hx, rfl⟩ := List.mem_map.1 h1
    rw [blk_bits f x k j (by omega)] at h2
    simp only [blkP, barB, Bool.and_eq_true, Bool.not_eq_true'] at h2
    obtain ⟨c, hc, rfl⟩ := List.getElem_of_mem hx
    rw [← nth_getElem hc] at h2
    rw [hpin c hc] at h2; cases h2.2
  · have := hpin 0 (by omega)
    rw [pinB, List.any_eq_true] at this
    obtain ⟨i, hi, h1⟩ := this
    simp only [Bool.and_eq_true] at h1
    exact hb (List.any_eq_true.2 ⟨i, hi, h1.1⟩)
end
end
end Go.Proofs.Ytkjdnnedncomgaa

set_option linter.unusedVariables false
namespace Go.Proofs.Ytkjdnnedncomgaa
open Go Go.Am

theorem f17_con : Con Try.prog cfg 17 [] (.bool true) := ⟨400, by kernel_rfl⟩
end Go.Proofs.Ytkjdnnedncomgaa

set_option linter.unusedVariables false
set_option linter.unusedSimpArgs false
set_option maxRecDepth 10000
namespace Go.Proofs.Ytkjdnnedncomgaa
open Go Go.Am

variable {h h' : Hp} {K : AV → Hp → Prop}

/-! ### One depth -/
end Go.Proofs.Ytkjdnnedncomgaa

set_option linter.unusedVariables false
set_option linter.unusedSimpArgs false
set_option maxRecDepth 10000
namespace Go.Proofs.Ytkjdnnedncomgaa
open Go Go.Am

variable {h h' : Hp} {K : AV → Hp → Prop}

/-- slices.Equal. -/
theorem f45_con (xs ys : List Int) (hx : xs.length ≤ 9223372036854775807) : Con Try.prog cfg 45 [LI xs, LI ys] (.bool (decide (xs = ys))) := by
  refine Con_intro Try.func45 rfl ok45 (Nat.le_of_ble_eq_true rfl) rfl ?_
  simp only [Try.f45, Option.getD_some, initSt2]
  by_cases hl : xs.length = ys.length
  case neg =>
    have hne : ¬ xs = ys := fun h => hl (by rw [h])
    simp (disch := first | (simp only [go_sem, Bool.and_self, eq_self]; done) | omega | (simp only [List.length_cons, List.length_nil]; omega)) only [go_sem, ↓reduceIte, Nat.reduceEqDiff, Nat.reduceAdd, Nat.reduceMul, Nat.reduceSub, Int.reduceToNat, Nat.reduceBEq, List.size_toArray, List.length_cons, List.length_nil, Bool.false_and, Bool.true_and, Bool.or_false, Bool.false_or, Bool.and_false, Bool.and_true, hl, decide_eq_false hne]
  simp (disch := first | (simp only [go_sem, Bool.and_self, eq_self]; done) | omega | (simp only [List.length_cons, List.length_nil]; omega)) only [go_sem, ↓reduceIte, Nat.reduceEqDiff, Nat.reduceAdd, Nat.reduceMul, Nat.reduceSub, Int.reduceToNat, Nat.reduceBEq, List.size_toArray, List.length_cons, List.length_nil, Bool.false_and, Bool.true_and, Bool.or_false, Bool.false_or, Bool.and_false, Bool.and_true, hl]
  refine WP_for 13 xs.length (fun i st h => st 0 = LI xs ∧ st 1 = LI ys ∧ st 12 = I xs.length ∧ ∀ j, j < i → nth xs j = nth ys j) (by simp (disch := first | (simp only [go_sem, Bool.and_self, eq_self]; done) | omega | (simp only [List.length_cons, List.length_nil]; omega)) only [go_sem, ↓reduceIte, Nat.reduceEqDiff, Nat.reduceAdd, Nat.reduceMul, Nat.reduceSub, Int.reduceToNat, Nat.reduceBEq, List.size_toArray, List.length_cons, List.length_nil, Bool.false_and, Bool.true_and, Bool.or_false, Bool.false_or, Bool.and_false, Bool.and_true]) ⟨by simp (disch := first | (simp only [go_sem, Bool.and_self, eq_self]; done) | omega | (simp only [List.length_cons, List.length_nil]; omega)) only [go_sem, ↓reduceIte, Nat.reduceEqDiff, Nat.reduceAdd, Nat.reduceMul, Nat.reduceSub, Int.reduceToNat, Nat.reduceBEq, List.size_toArray, List.length_cons, List.length_nil, Bool.false_and, Bool.true_and, Bool.or_false, Bool.false_or, Bool.and_false, Bool.and_true], by simp (disch := first | (simp only [go_sem, Bool.and_self, eq_self]; done) | omega | (simp only [List.length_cons, List.length_nil]; omega)) only [go_sem, ↓reduceIte, Nat.reduceEqDiff, Nat.reduceAdd, Nat.reduceMul, Nat.reduceSub, Int.reduceToNat, Nat.reduceBEq, List.size_toArray, List.length_cons, List.length_nil, Bool.false_and, Bool.true_and, Bool.or_false, Bool.false_or, Bool.and_false, Bool.and_true], by simp (disch := first | (simp only [go_sem, Bool.and_self, eq_self]; done) | omega | (simp only [List.length_cons, List.length_nil]; omega)) only [go_sem, ↓reduceIte, Nat.reduceEqDiff, Nat.reduceAdd, Nat.reduceMul, Nat.reduceSub, Int.reduceToNat, Nat.reduceBEq, List.size_toArray, List.length_cons, List.length_nil, Bool.false_and, Bool.true_and, Bool.or_false, Bool.false_or, Bool.and_false, Bool.and_true, hl], by omega⟩ ?_
  rintro i st h hi s13 ⟨s0, s1, s12, heq⟩
  by_cases hlt : i < xs.length
  case neg =>
    have : xs = ys := list_ext_nth hl fun j hj => heq j (by omega)
    simp (disch := first | (simp only [go_sem, Bool.and_self, eq_self]; done) | omega | (simp only [List.length_cons, List.length_nil]; omega)) only [go_sem, ↓reduceIte, Nat.reduceEqDiff, Nat.reduceAdd, Nat.reduceMul, Nat.reduceSub, Int.reduceToNat, Nat.reduceBEq, List.size_toArray, List.length_cons, List.length_nil, Bool.false_and, Bool.true_and, Bool.or_false, Bool.false_or, Bool.and_false, Bool.and_true, s0, s1, s12, s13, hlt, decide_eq_true this]
  have hlt2 : i < ys.length := by omega
  by_cases he : nth xs i = nth ys i
  case neg =>
    have : ¬ xs = ys := fun h => he (by rw [h])
    simp (disch := first | (simp only [go_sem, Bool.and_self, eq_self]; done) | omega | (simp only [List.length_cons, List.length_nil]; omega)) only [go_sem, ↓reduceIte, Nat.reduceEqDiff, Nat.reduceAdd, Nat.reduceMul, Nat.reduceSub, Int.reduceToNat, Nat.reduceBEq, List.size_toArray, List.length_cons, List.length_nil, Bool.false_and, Bool.true_and, Bool.or_false, Bool.false_or, Bool.and_false, Bool.and_true, s0, s1, s12, s13, hlt, hlt2, he, decide_eq_false this]
  simp (disch := first | (simp only [go_sem, Bool.and_self, eq_self]; done) | omega | (simp only [List.length_cons, List.length_nil]; omega)) only [go_sem, ↓reduceIte, Nat.reduceEqDiff, Nat.reduceAdd, Nat.reduceMul, Nat.reduceSub, Int.reduceToNat, Nat.reduceBEq, List.size_toArray, List.length_cons, List.length_nil, Bool.false_and, Bool.true_and, Bool.or_false, Bool.false_or, Bool.and_false, Bool.and_true, s0, s1, s12, s13, hlt, hlt2, he]
  rw [ForK_normal]
  refine ⟨hlt, by simp (disch := first | (simp only [go_sem, Bool.and_self, eq_self]; done) | omega | (simp only [List.length_cons, List.length_nil]; omega)) only [go_sem, ↓reduceIte, Nat.reduceEqDiff, Nat.reduceAdd, Nat.reduceMul, Nat.reduceSub, Int.reduceToNat, Nat.reduceBEq, List.size_toArray, List.length_cons, List.length_nil, Bool.false_and, Bool.true_and, Bool.or_false, Bool.false_or, Bool.and_false, Bool.and_true, s13], by simp (disch := first | (simp only [go_sem, Bool.and_self, eq_self]; done) | omega | (simp only [List.length_cons, List.length_nil]; omega)) only [go_sem, ↓reduceIte, Nat.reduceEqDiff, Nat.reduceAdd, Nat.reduceMul, Nat.reduceSub, Int.reduceToNat, Nat.reduceBEq, List.size_toArray, List.length_cons, List.length_nil, Bool.false_and, Bool.true_and, Bool.or_false, Bool.false_or, Bool.and_false, Bool.and_true, s0], by simp (disch := first | (simp only [go_sem, Bool.and_self, eq_self]; done) | omega | (simp only [List.length_cons, List.length_nil]; omega)) only [go_sem, ↓reduceIte, Nat.reduceEqDiff, Nat.reduceAdd, Nat.reduceMul, Nat.reduceSub, Int.reduceToNat, Nat.reduceBEq, List.size_toArray, List.length_cons, List.length_nil, Bool.false_and, Bool.true_and, Bool.or_false, Bool.false_or, Bool.and_false, Bool.and_true, s1], by simp (disch := first | (simp only [go_sem, Bool.and_self, eq_self]; done) | omega | (simp only [List.length_cons, List.length_nil]; omega)) only [go_sem, ↓reduceIte, Nat.reduceEqDiff, Nat.reduceAdd, Nat.reduceMul, Nat.reduceSub, Int.reduceToNat, Nat.reduceBEq, List.size_toArray, List.length_cons, List.length_nil, Bool.false_and, Bool.true_and, Bool.or_false, Bool.false_or, Bool.and_false, Bool.and_true, s12], fun j hj => ?_⟩
  rcases Nat.lt_or_ge j i with h | h
  · exact heq j h
  · rwa [show j = i by omega]
theorem k45 (xs ys : List Int) (hx : xs.length ≤ 9223372036854775807) : ConW Try.prog cfg 45 h (some ([LI xs, LI ys], h')) K = K (.bool (decide (xs = ys))) h := ConW_num (f45_con xs ys hx) rfl

theorem f44_con (m l : List Int) (hx : l.length ≤ 9223372036854775807) : Con Try.prog cfg 44 [LI m, .pp [LI l]] (.bool (decide (l = m))) := by
  have kk := fun h h' K => k45 (h := h) (h' := h') (K := K) l m hx
  refine Con_intro Try.func44 rfl ok44 (Nat.le_of_ble_eq_true rfl) rfl ?_
  simp only [Try.f44, Option.getD_some, initSt2]
  simp (disch := first | (simp only [go_sem, Bool.and_self, eq_self]; done) | omega | (simp only [List.length_cons, List.length_nil]; omega)) only [go_sem, ↓reduceIte, Nat.reduceEqDiff, Nat.reduceAdd, Nat.reduceMul, Nat.reduceSub, Int.reduceToNat, Nat.reduceBEq, List.size_toArray, List.length_cons, List.length_nil, Bool.false_and, Bool.true_and, Bool.or_false, Bool.false_or, Bool.and_false, Bool.and_true, kk]

/-- The first place where a row is, or -1. -/
def findR (xs : List (List Int)) (r : List Int) : Int := match xs.findIdx? (fun m => decide (r = m)) with | some i => i | none => -1
theorem f43_con (xs : List (List Int)) (hx : xs.length ≤ 9223372036854775807) (l : List Int) (hl : l.length ≤ 9223372036854775807) : Con Try.prog cfg 43 [LLI xs, .fn 44 [.pp [LI l]]] (I (findR xs l)) := by
  have kg : ∀ m h h' K, ConW Try.prog cfg 44 h (some ([LI m, .pp [LI l]], h')) K = K (.bool (decide (l = m))) h := fun m h h' K => ConW_num (f44_con m l hl) rfl
  refine Con_intro Try.func43 rfl ok43 (Nat.le_of_ble_eq_true rfl) rfl ?_
  simp only [Try.f43, Option.getD_some, initSt2]
  simp (disch := first | (simp only [go_sem, Bool.and_self, eq_self]; done) | omega | (simp only [List.length_cons, List.length_nil]; omega)) only [go_sem, ↓reduceIte, Nat.reduceEqDiff, Nat.reduceAdd, Nat.reduceMul, Nat.reduceSub, Int.reduceToNat, Nat.reduceBEq, List.size_toArray, List.length_cons, List.length_nil, Bool.false_and, Bool.true_and, Bool.or_false, Bool.false_or, Bool.and_false, Bool.and_true]
  refine WP_for 8 xs.length (fun i st h => st 0 = LLI xs ∧ st 1 = .fn 44 [.pp [LI l]] ∧ st 7 = I xs.length ∧ ∀ j, j < i → ¬ l = nth xs j) (by simp (disch := first | (simp only [go_sem, Bool.and_self, eq_self]; done) | omega | (simp only [List.length_cons, List.length_nil]; omega)) only [go_sem, ↓reduceIte, Nat.reduceEqDiff, Nat.reduceAdd, Nat.reduceMul, Nat.reduceSub, Int.reduceToNat, Nat.reduceBEq, List.size_toArray, List.length_cons, List.length_nil, Bool.false_and, Bool.true_and, Bool.or_false, Bool.false_or, Bool.and_false, Bool.and_true]) ⟨by simp (disch := first | (simp only [go_sem, Bool.and_self, eq_self]; done) | omega | (simp only [List.length_cons, List.length_nil]; omega)) only [go_sem, ↓reduceIte, Nat.reduceEqDiff, Nat.reduceAdd, Nat.reduceMul, Nat.reduceSub, Int.reduceToNat, Nat.reduceBEq, List.size_toArray, List.length_cons, List.length_nil, Bool.false_and, Bool.true_and, Bool.or_false, Bool.false_or, Bool.and_false, Bool.and_true], by simp (disch := first | (simp only [go_sem, Bool.and_self, eq_self]; done) | omega | (simp only [List.length_cons, List.length_nil]; omega)) only [go_sem, ↓reduceIte, Nat.reduceEqDiff, Nat.reduceAdd, Nat.reduceMul, Nat.reduceSub, Int.reduceToNat, Nat.reduceBEq, List.size_toArray, List.length_cons, List.length_nil, Bool.false_and, Bool.true_and, Bool.or_false, Bool.false_or, Bool.and_false, Bool.and_true], by simp (disch := first | (simp only [go_sem, Bool.and_self, eq_self]; done) | omega | (simp only [List.length_cons, List.length_nil]; omega)) only [go_sem, ↓reduceIte, Nat.reduceEqDiff, Nat.reduceAdd, Nat.reduceMul, Nat.reduceSub, Int.reduceToNat, Nat.reduceBEq, List.size_toArray, List.length_cons, List.length_nil, Bool.false_and, Bool.true_and, Bool.or_false, Bool.false_or, Bool.and_false, Bool.and_true], by omega⟩ ?_
  rintro i st h hi s8 ⟨s0, s1, s7, hn⟩
  by_cases hlt : i < xs.length
  case neg =>
    have : findR xs l = -1 := by
      have : xs.findIdx? (fun m => decide (l = m)) = none := by
        rw [List.findIdx?_eq_none_iff]
        intro x hx'
        obtain ⟨j, hj, rfl⟩ := List.getElem_of_mem hx'
        rw [← nth_getElem hj]
        simpa using hn j (by omega)
      simp [findR, this]
    simp (disch := first | (simp only [go_sem, Bool.and_self, eq_self]; done) | omega | (simp only [List.length_cons, List.length_nil]; omega)) only [go_sem, ↓reduceIte, Nat.reduceEqDiff, Nat.reduceAdd, Nat.reduceMul, Nat.reduceSub, Int.reduceToNat, Nat.reduceBEq, List.size_toArray, List.length_cons, List.length_nil, Bool.false_and, Bool.true_and, Bool.or_false, Bool.false_or, Bool.and_false, Bool.and_true, s0, s1, s7, s8, hlt, this]
  have hpp : sealA h (.pp [LI l]) = some (.pp [LI l], h) := sealA_pp _ (by simp only [AV.pureL, pure_L, Bool.and_self])
  by_cases hpx : l = nth xs i
  · have : findR xs l = i := by
      have : xs.findIdx? (fun m => decide (l = m)) = some i := by
        rw [List.findIdx?_eq_some_iff_getElem]
        refine ⟨hlt, by rw [← nth_getElem hlt]; exact decide_eq_true hpx, fun j hj => ?_⟩
        rw [← nth_getElem (by omega)]
        simpa using hn j hj
      simp [findR, this]
    simp (disch := first | (simp only [go_sem, Bool.and_self, eq_self]; done) | omega | (simp only [List.length_cons, List.length_nil]; omega)) only [go_sem, ↓reduceIte, Nat.reduceEqDiff, Nat.reduceAdd, Nat.reduceMul, Nat.reduceSub, Int.reduceToNat, Nat.reduceBEq, List.size_toArray, List.length_cons, List.length_nil, Bool.false_and, Bool.true_and, Bool.or_false, Bool.false_or, Bool.and_false, Bool.and_true, s0, s1, s7, s8, hlt, hpp, kg, decide_eq_true hpx, this]
  · simp (disch := first | (simp only [go_sem, Bool.and_self, eq_self]; done) | omega | (simp only [List.length_cons, List.length_nil]; omega)) only [go_sem, ↓reduceIte, Nat.reduceEqDiff, Nat.reduceAdd, Nat.reduceMul, Nat.reduceSub, Int.reduceToNat, Nat.reduceBEq, List.size_toArray, List.length_cons, List.length_nil, Bool.false_and, Bool.true_and, Bool.or_false, Bool.false_or, Bool.and_false, Bool.and_true, s0, s1, s7, s8, hlt, hpp, kg, decide_eq_false hpx]
    rw [ForK_normal]
    refine ⟨hlt, by simp (disch := first | (simp only [go_sem, Bool.and_self, eq_self]; done) | omega | (simp only [List.length_cons, List.length_nil]; omega)) only [go_sem, ↓reduceIte, Nat.reduceEqDiff, Nat.reduceAdd, Nat.reduceMul, Nat.reduceSub, Int.reduceToNat, Nat.reduceBEq, List.size_toArray, List.length_cons, List.length_nil, Bool.false_and, Bool.true_and, Bool.or_false, Bool.false_or, Bool.and_false, Bool.and_true, s8], by simp (disch := first | (simp only [go_sem, Bool.and_self, eq_self]; done) | omega | (simp only [List.length_cons, List.length_nil]; omega)) only [go_sem, ↓reduceIte, Nat.reduceEqDiff, Nat.reduceAdd, Nat.reduceMul, Nat.reduceSub, Int.reduceToNat, Nat.reduceBEq, List.size_toArray, List.length_cons, List.length_nil, Bool.false_and, Bool.true_and, Bool.or_false, Bool.false_or, Bool.and_false, Bool.and_true, s0], by simp (disch := first | (simp only [go_sem, Bool.and_self, eq_self]; done) | omega | (simp only [List.length_cons, List.length_nil]; omega)) only [go_sem, ↓reduceIte, Nat.reduceEqDiff, Nat.reduceAdd, Nat.reduceMul, Nat.reduceSub, Int.reduceToNat, Nat.reduceBEq, List.size_toArray, List.length_cons, List.length_nil, Bool.false_and, Bool.true_and, Bool.or_false, Bool.false_or, Bool.and_false, Bool.and_true, s1], by simp (disch := first | (simp only [go_sem, Bool.and_self, eq_self]; done) | omega | (simp only [List.length_cons, List.length_nil]; omega)) only [go_sem, ↓reduceIte, Nat.reduceEqDiff, Nat.reduceAdd, Nat.reduceMul, Nat.reduceSub, Int.reduceToNat, Nat.reduceBEq, List.size_toArray, List.length_cons, List.length_nil, Bool.false_and, Bool.true_and, Bool.or_false, Bool.false_or, Bool.and_false, Bool.and_true, s7], fun j hj => ?_⟩
    rcases Nat.lt_or_ge j i with hj' | hj'
    · exact hn j hj'
    · rwa [show j = i by omega]
/-- slices.Clone. -/
theorem f46_con (x : Int) (xs : List Int) (hx : (x :: xs).length ≤ 1000000) : Con Try.prog cfg 46 [LI (x :: xs)] (LI (x :: xs)) := by
  refine Con_intro Try.func46 rfl ok46 (Nat.le_of_ble_eq_true rfl) rfl ?_
  simp only [Try.f46, Option.getD_some, initSt1]
  have happ := app_own (P := Try.prog) (h := Hp.empty.alloc (.cells false true [])) (f := e1 I) 3 8 (I 0) (LI (x :: xs)) 0 [] (x :: xs) 0 isz3 ibytes3 izero3 rfl rfl rfl (cellsOf_L _ _) (lenA_L _ _) (by rw [List.length_nil]; omega) (by rw [List.length_nil]; omega)
  have heq : binA Try.prog .eql 27 (LI (x :: xs)) .nil = some (.bool false) := eql_nil_cons 27 3 und27 _ _
  have hbe := bsB_empty (P := Try.prog) (h := Hp.empty) 3 1 (I 0) isz3 izero3 (by decide)
  simp (disch := first | (simp only [go_sem, Bool.and_self, eq_self]; done) | omega | (simp only [List.length_cons, List.length_nil]; omega)) only [go_sem, ↓reduceIte, Nat.reduceEqDiff, Nat.reduceAdd, Nat.reduceMul, Nat.reduceSub, Int.reduceToNat, Nat.reduceBEq, List.size_toArray, List.length_cons, List.length_nil, Bool.false_and, Bool.true_and, Bool.or_false, Bool.false_or, Bool.and_false, Bool.and_true, heq, hbe, happ, List.length_nil]
  refine export_Own (f := e1 I) (xs := x :: xs) 27 (.inr ⟨1, ?_, ?_, ?_⟩)
  · simp
  · exact Nat.lt_succ_self 1
  · rfl
/-- The plan without repeated keys, of the first n keys. -/
def mrgO (a : List (List Int)) : Nat → List (List Int)
  | 0 => []
  | n + 1 => if nth a n ∈ mrgO a n then mrgO a n else mrgO a n ++ [nth a n]
/-- The place of a row, or the length. -/
def idxR (xs : List (List Int)) (r : List Int) : Nat := xs.findIdx (fun m => decide (r = m))
def mrgL (a : List (List Int)) (n : Nat) : List Int := (List.range n).map fun i => (idxR (mrgO a i) (nth a i) : Int)
theorem mrgO_len (a : List (List Int)) (n : Nat) : (mrgO a n).length ≤ n := by
  induction n with
  | zero => simp [mrgO]
  | succ n ih =>
    rw [mrgO]; split
    · omega
    · simp; omega
theorem mrgL_len (a : List (List Int)) (n : Nat) : (mrgL a n).length = n := by simp [mrgL]
theorem mrgL_succ (a : List (List Int)) (n : Nat) : mrgL a (n + 1) = mrgL a n ++ [(idxR (mrgO a n) (nth a n) : Int)] := (rows_snoc (fun i => (idxR (mrgO a i) (nth a i) : Int)) n).symm
theorem idxR_not {xs : List (List Int)} {r : List Int} (h : ¬ r ∈ xs) : idxR xs r = xs.length := by
  refine List.findIdx_eq_length.2 fun x hx => ?_
  simp only [decide_eq_false_iff_not]
  rintro rfl
  exact h hx
theorem findR_mem {xs : List (List Int)} {r : List Int} (h : r ∈ xs) : findR xs r = (idxR xs r : Int) := by
  have h1 : xs.findIdx (fun m => decide (r = m)) < xs.length := List.findIdx_lt_length_of_exists ⟨r, h, by simp⟩
  have : xs.findIdx? (fun m => decide (r = m)) = some (xs.findIdx (fun m => decide (r = m))) := List.findIdx?_eq_some_of_exists ⟨r, h, by simp⟩
  simp [findR, this, idxR]
theorem findR_not {xs : List (List Int)} {r : List Int} (h : ¬ r ∈ xs) : findR xs r = -1 := by
  have : xs.findIdx? (fun m => decide (r = m)) = none := by
    rw [List.findIdx?_eq_none_iff]
    intro x hx
    simp only [decide_eq_false_iff_not]
    rintro rfl
    exact h hx
  simp [findR, this]

theorem f31_con (xs ys : List (List Int)) (hx : okLL xs) : Con Try.prog cfg 31 [LLI xs, LLI ys] (.bool (decide (xs = ys))) := by
  have hxl := hx.1
  refine Con_intro Try.func31 rfl ok31 (Nat.le_of_ble_eq_true rfl) rfl ?_
  simp only [Try.f31, Option.getD_some, initSt2]
  by_cases hl : xs.length = ys.length
  case neg =>
    have hne : ¬ xs = ys := fun h => hl (by rw [h])
    simp (disch := first | (simp only [go_sem, Bool.and_self, eq_self]; done) | omega | (simp only [List.length_cons, List.length_nil]; omega)) only [go_sem, ↓reduceIte, Nat.reduceEqDiff, Nat.reduceAdd, Nat.reduceMul, Nat.reduceSub, Int.reduceToNat, Nat.reduceBEq, List.size_toArray, List.length_cons, List.length_nil, Bool.false_and, Bool.true_and, Bool.or_false, Bool.false_or, Bool.and_false, Bool.and_true, hl, decide_eq_false hne]
  simp (disch := first | (simp only [go_sem, Bool.and_self, eq_self]; done) | omega | (simp only [List.length_cons, List.length_nil]; omega)) only [go_sem, ↓reduceIte, Nat.reduceEqDiff, Nat.reduceAdd, Nat.reduceMul, Nat.reduceSub, Int.reduceToNat, Nat.reduceBEq, List.size_toArray, List.length_cons, List.length_nil, Bool.false_and, Bool.true_and, Bool.or_false, Bool.false_or, Bool.and_false, Bool.and_true, hl]
  refine WP_for 5 xs.length (fun i st h => st 0 = LLI xs ∧ st 1 = LLI ys ∧ ∀ j, j < i → nth xs j = nth ys j) (by simp (disch := first | (simp only [go_sem, Bool.and_self, eq_self]; done) | omega | (simp only [List.length_cons, List.length_nil]; omega)) only [go_sem, ↓reduceIte, Nat.reduceEqDiff, Nat.reduceAdd, Nat.reduceMul, Nat.reduceSub, Int.reduceToNat, Nat.reduceBEq, List.size_toArray, List.length_cons, List.length_nil, Bool.false_and, Bool.true_and, Bool.or_false, Bool.false_or, Bool.and_false, Bool.and_true]) ⟨by simp (disch := first | (simp only [go_sem, Bool.and_self, eq_self]; done) | omega | (simp only [List.length_cons, List.length_nil]; omega)) only [go_sem, ↓reduceIte, Nat.reduceEqDiff, Nat.reduceAdd, Nat.reduceMul, Nat.reduceSub, Int.reduceToNat, Nat.reduceBEq, List.size_toArray, List.length_cons, List.length_nil, Bool.false_and, Bool.true_and, Bool.or_false, Bool.false_or, Bool.and_false, Bool.and_true], by simp (disch := first | (simp only [go_sem, Bool.and_self, eq_self]; done) | omega | (simp only [List.length_cons, List.length_nil]; omega)) only [go_sem, ↓reduceIte, Nat.reduceEqDiff, Nat.reduceAdd, Nat.reduceMul, Nat.reduceSub, Int.reduceToNat, Nat.reduceBEq, List.size_toArray, List.length_cons, List.length_nil, Bool.false_and, Bool.true_and, Bool.or_false, Bool.false_or, Bool.and_false, Bool.and_true], by omega⟩ ?_
  rintro i st h hi s5 ⟨s0, s1, heq⟩
  by_cases hlt : i < xs.length
  case neg =>
    have : xs = ys := list_ext_nth hl fun j hj => heq j (by omega)
    simp (disch := first | (simp only [go_sem, Bool.and_self, eq_self]; done) | omega | (simp only [List.length_cons, List.length_nil]; omega)) only [go_sem, ↓reduceIte, Nat.reduceEqDiff, Nat.reduceAdd, Nat.reduceMul, Nat.reduceSub, Int.reduceToNat, Nat.reduceBEq, List.size_toArray, List.length_cons, List.length_nil, Bool.false_and, Bool.true_and, Bool.or_false, Bool.false_or, Bool.and_false, Bool.and_true, s0, s1, s5, hlt, decide_eq_true this]
  have hlt2 : i < ys.length := by omega
  have kk := fun h h' K => k16 (h := h) (h' := h') (K := K) (nth xs i) (nth ys i) (hx.row hlt)
  by_cases he : nth xs i = nth ys i
  case neg =>
    have : ¬ xs = ys := fun h => he (by rw [h])
    simp (disch := first | (simp only [go_sem, Bool.and_self, eq_self]; done) | omega | (simp only [List.length_cons, List.length_nil]; omega)) only [go_sem, ↓reduceIte, Nat.reduceEqDiff, Nat.reduceAdd, Nat.reduceMul, Nat.reduceSub, Int.reduceToNat, Nat.reduceBEq, List.size_toArray, List.length_cons, List.length_nil, Bool.false_and, Bool.true_and, Bool.or_false, Bool.false_or, Bool.and_false, Bool.and_true, s0, s1, s5, hlt, hlt2, kk, decide_eq_false he, decide_eq_false this]
  simp (disch := first | (simp only [go_sem, Bool.and_self, eq_self]; done) | omega | (simp only [List.length_cons, List.length_nil]; omega)) only [go_sem, ↓reduceIte, Nat.reduceEqDiff, Nat.reduceAdd, Nat.reduceMul, Nat.reduceSub, Int.reduceToNat, Nat.reduceBEq, List.size_toArray, List.length_cons, List.length_nil, Bool.false_and, Bool.true_and, Bool.or_false, Bool.false_or, Bool.and_false, Bool.and_true, s0, s1, s5, hlt, hlt2, kk, decide_eq_true he]
  rw [ForK_normal]
  refine ⟨hlt, by simp (disch := first | (simp only [go_sem, Bool.and_self, eq_self]; done) | omega | (simp only [List.length_cons, List.length_nil]; omega)) only [go_sem, ↓reduceIte, Nat.reduceEqDiff, Nat.reduceAdd, Nat.reduceMul, Nat.reduceSub, Int.reduceToNat, Nat.reduceBEq, List.size_toArray, List.length_cons, List.length_nil, Bool.false_and, Bool.true_and, Bool.or_false, Bool.false_or, Bool.and_false, Bool.and_true, s5], by simp (disch := first | (simp only [go_sem, Bool.and_self, eq_self]; done) | omega | (simp only [List.length_cons, List.length_nil]; omega)) only [go_sem, ↓reduceIte, Nat.reduceEqDiff, Nat.reduceAdd, Nat.reduceMul, Nat.reduceSub, Int.reduceToNat, Nat.reduceBEq, List.size_toArray, List.length_cons, List.length_nil, Bool.false_and, Bool.true_and, Bool.or_false, Bool.false_or, Bool.and_false, Bool.and_true, s0], by simp (disch := first | (simp only [go_sem, Bool.and_self, eq_self]; done) | omega | (simp only [List.length_cons, List.length_nil]; omega)) only [go_sem, ↓reduceIte, Nat.reduceEqDiff, Nat.reduceAdd, Nat.reduceMul, Nat.reduceSub, Int.reduceToNat, Nat.reduceBEq, List.size_toArray, List.length_cons, List.length_nil, Bool.false_and, Bool.true_and, Bool.or_false, Bool.false_or, Bool.and_false, Bool.and_true, s1], fun j hj => ?_⟩
  rcases Nat.lt_or_ge j i with h | h
  · exact heq j h
  · rwa [show j = i by omega]
theorem mrgO_mem {a : List (List Int)} {n : Nat} {r : List Int} (h : r ∈ mrgO a n) : ∃ i, i < n ∧ r = nth a i := by
  induction n with
  | zero => simp [mrgO] at h
  | succ n ih =>
    rw [mrgO] at h
    split at h
    · obtain ⟨i, h1, h2⟩ := ih h; exact ⟨i, by omega, h2⟩
    · rcases List.mem_append.1 h with h | h
      · obtain ⟨i, h1, h2⟩ := ih h; exact ⟨i, by omega, h2⟩
      · simp at h; exact ⟨n, by omega, h⟩
end Go.Proofs.Ytkjdnnedncomgaa

set_option linter.unusedVariables false
set_option linter.unusedSimpArgs false
set_option maxRecDepth 10000
namespace Go.Proofs.Ytkjdnnedncomgaa
open Go Go.Am

variable {h h' : Hp} {K : AV → Hp → Prop}

def thawRow : List AV → AV
  | [.lst a] => .fresh 1 a.flatten
  | _ => .skp
/-- The same answer, with its lists handed over. -/
def thawV : AV → AV
  | .tup [.lst rows, e] => if rows.isEmpty then .tup [.lst [], e] else .tup [.own (.fresh 1 (rows.map thawRow)), e]
  | .lst a => .fresh 1 a.flatten
  | v => v
def offL : List Nat := [10, 29]
def isThaw (f : Nat) : Bool := f == 20 || f == 46
open Classical in
noncomputable def extL (f : FuncId) (args : List AV) : Option AV :=
  if offL.contains f = true then none
  else if isThaw f = true then (if h : ∃ r, Con Try.prog cfg f args r ∧ PureOk Try.prog f args (thawV r) then some (thawV h.choose) else none)
  else if h : ∃ r, Con Try.prog cfg f args r then some h.choose else none
noncomputable def cfgL : Cfg := { cfg with ext := extL, own := fun f => isThaw f || ([13, 51].contains f || f == 29), keepNil := fun f => f == 29, deep := true, strict := fun _ _ => false, wr := fun _ _ => [] }
theorem hext0 : ExtOk Try.prog cfg := fun _ _ _ h => by cases h
theorem hextL : ExtOk Try.prog cfgL := by
  intro f args r he
  have he : extL f args = some r := he
  unfold extL at he
  split at he
  · cases he
  split at he
  · rename_i e37
    split at he
    · rename_i h
      cases he
      exact ⟨h.choose_spec.2, fun h2 => by
        have h2 : (isThaw f || ([13, 51].contains f || f == 29)) = false := h2
        rw [e37] at h2; cases h2⟩
    · cases he
  · split at he
    · rename_i h
      cases he
      obtain ⟨k, hk⟩ := h.choose_spec
      refine ⟨(sound hext0 k).2.2.1 _ _ _ hk, fun ho => callP_pure (P := Try.prog) (cfg := cfg) (fun _ _ _ h => by cases h) ?_ hk⟩
      have ho : (isThaw f || ([13, 51].contains f || f == 29)) = false := ho
      simp only [Bool.or_eq_false_iff] at ho
      exact ho.2.1
    · cases he
theorem toL {f : FuncId} {args : List AV} {r : AV} (hb : (offL.contains f || isThaw f) = false) (hc : Con Try.prog cfg f args r) : Con Try.prog cfgL f args r := by
  simp only [Bool.or_eq_false_iff] at hb
  refine ⟨1, ?_⟩
  have : extL f args = some r := by
    unfold extL
    have hex : ∃ r, Con Try.prog cfg f args r := ⟨r, hc⟩
    rw [if_neg (by rw [hb.1]; decide), if_neg (by rw [hb.2]; decide), dif_pos hex]
    obtain ⟨k, hk⟩ := hex.choose_spec
    obtain ⟨k', hk'⟩ := hc
    rw [callP_det hk hk']
  show (match extL f args with | some r => some r | none => _) = _
  rw [this]
theorem thawC {f : FuncId} {args : List AV} {r : AV} (ho : offL.contains f = false) (ht : isThaw f = true) (hc : Con Try.prog cfg f args r) (hp : PureOk Try.prog f args (thawV r)) : Con Try.prog cfgL f args (thawV r) := by
  refine ⟨1, ?_⟩
  have : extL f args = some (thawV r) := by
    unfold extL
    have hex : ∃ r, Con Try.prog cfg f args r ∧ PureOk Try.prog f args (thawV r) := ⟨r, hc, hp⟩
    rw [if_neg (by rw [ho]; decide), if_pos ht, dif_pos hex]
    obtain ⟨k, hk⟩ := hex.choose_spec.1
    obtain ⟨k', hk'⟩ := hc
    rw [callP_det hk hk']
  show (match extL f args with | some r => some r | none => _) = _
  rw [this]
theorem thawV_row (l : List Int) : thawV (LI l) = .fresh 1 (l.flatMap (e1 I)) := by
  show AV.fresh 1 ((l.map (e1 I)).flatten) = _
  rw [List.flatMap]
theorem thawV_rows (q : List (List Int)) (e : AV) (hq : q ≠ []) : thawV (.tup [LLI q, e]) = .tup [.own (.fresh 1 (frR q)), e] := by
  show (if (q.map (e1 LI)).isEmpty then _ else AV.tup [.own (.fresh 1 ((q.map (e1 LI)).map thawRow)), e]) = _
  rw [if_neg (by cases q with | nil => exact absurd rfl hq | cons _ _ => simp), List.map_map]
  have : (thawRow ∘ e1 LI) = fun r : List Int => AV.fresh 1 (r.flatMap (e1 I)) := by
    funext r
    show AV.fresh 1 ((r.map (e1 I)).flatten) = _
    rw [List.flatMap]
  rw [this]; rfl
@[go_sem] theorem cfgL_deep : cfgL.deep = true := by kernel_rfl
@[go_sem] theorem cfgL_strict (a b : Nat) : cfgL.strict a b = false := rfl
@[go_sem] theorem cfgL_wr (a b : Nat) : cfgL.wr a b = [] := rfl
@[go_sem] theorem shrL10 : cfgL.shared 10 = false := by kernel_rfl
@[go_sem] theorem shrL11 : cfgL.shared 11 = false := by kernel_rfl
@[go_sem] theorem shrL12 : cfgL.shared 12 = false := by kernel_rfl
@[go_sem] theorem shrL16 : cfgL.shared 16 = false := by kernel_rfl
@[go_sem] theorem shrL17 : cfgL.shared 17 = false := by kernel_rfl
@[go_sem] theorem shrL19 : cfgL.shared 19 = false := by kernel_rfl
@[go_sem] theorem shrL20 : cfgL.shared 20 = false := by kernel_rfl
@[go_sem] theorem shrL21 : cfgL.shared 21 = false := by kernel_rfl
@[go_sem] theorem shrL23 : cfgL.shared 23 = false := by kernel_rfl
@[go_sem] theorem shrL24 : cfgL.shared 24 = false := by kernel_rfl
@[go_sem] theorem shrL29 : cfgL.shared 29 = false := by kernel_rfl
@[go_sem] theorem shrL31 : cfgL.shared 31 = false := by kernel_rfl
@[go_sem] theorem shrL32 : cfgL.shared 32 = false := by kernel_rfl
@[go_sem] theorem shrL34 : cfgL.shared 34 = false := by kernel_rfl
@[go_sem] theorem shrL37 : cfgL.shared 37 = false := by kernel_rfl
@[go_sem] theorem shrL38 : cfgL.shared 38 = false := by kernel_rfl
@[go_sem] theorem shrL43 : cfgL.shared 43 = false := by kernel_rfl
@[go_sem] theorem shrL44 : cfgL.shared 44 = false := by kernel_rfl
@[go_sem] theorem shrL45 : cfgL.shared 45 = false := by kernel_rfl
@[go_sem] theorem shrL46 : cfgL.shared 46 = false := by kernel_rfl
@[go_sem] theorem ownL29 : cfgL.own 29 = true := by kernel_rfl
@[go_sem] theorem ownL10 : cfgL.own 10 = false := by kernel_rfl
@[go_sem] theorem knL29 : cfgL.keepNil 29 = true := by kernel_rfl
@[go_sem] theorem knL10 : cfgL.keepNil 10 = false := by kernel_rfl
theorem okL10 : funcOk cfgL Try.f10 (Try.f10.body.getD .skip) = true := by kernel_rfl
theorem okL29 : funcOk cfgL Try.f29 (Try.f29.body.getD .skip) = true := by kernel_rfl
end Go.Proofs.Ytkjdnnedncomgaa

set_option linter.unusedVariables false
set_option linter.unusedSimpArgs false
set_option maxRecDepth 10000
namespace Go.Proofs.Ytkjdnnedncomgaa
open Go Go.Am

variable {h h' : Hp} {K : AV → Hp → Prop}

theorem f20_S (a : List (List Int)) (ha : okLL a) (cn dn : Nat) (ht : taskB a dn = true) (hc : 1 ≤ cn ∧ cn ≤ 4) (l : List (List Int)) (hp : planF a dn cn = some l) :
    ∃ v h', Shr Try.prog cfg 20 [LLI a, I cn, I dn] Hp.empty v h' ∧ ∃ flat, v = .tup [.sl 0 0 a.length 1, I 0] ∧ h'.bl 0 = some (.cells false true flat) ∧ RowsAt (e1 I) 1 h' flat (cutsOf a l) ∧ ∀ (j id off n s : Nat), flat[j]? = some (AV.sl id off n s) → id ≠ 0 := by
  have kk1 := fun h h' K => k37 (h := h) (h' := h') (K := K) a ha dn
  have hci : 1 ≤ (cn : Int) ∧ (cn : Int) ≤ 4 := by omega
  have ht' := ht
  simp only [taskB, Bool.and_eq_true, decide_eq_true_eq] at ht'
  have f := Pl.of ht'.1
  have kk2 := fun h h' K => k38 (h := h) (h' := h') (K := K) f (d := dn) (c := cn) (by omega) (by omega)
  have hk := f.keys
  refine Shr_intro (h := Hp.empty) Try.func20 rfl ok20 (Nat.le_of_ble_eq_true rfl) ?_
  simp only [Try.f20, Option.getD_some, initSt3]
  have hll : l.length = cn := by
    rw [planF] at hp
    obtain ⟨r, h1, rfl⟩ := Option.map_eq_some_iff.1 hp
    have := covF_len h1
    simp; omega
  have hmk := makeB_sl (P := Try.prog) (h := Hp.empty) 27 (a.length : Int) isz27 ibytes27 izero27 (by omega) (by omega)
  simp (disch := first | (simp only [go_sem, Bool.and_self, eq_self]; done) | omega | (simp only [List.length_cons, List.length_nil]; omega)) only [go_sem, ↓reduceIte, Nat.reduceEqDiff, Nat.reduceAdd, Nat.reduceMul, Nat.reduceSub, Int.reduceToNat, Nat.reduceBEq, List.size_toArray, List.length_cons, List.length_nil, Bool.false_and, Bool.true_and, Bool.or_false, Bool.false_or, Bool.and_false, Bool.and_true, kk1, ht, decide_eq_true hci, kk2, hp, Option.isSome_some, Option.getD_some, hmk]
  refine WP_for 37 a.length (fun k st h => st 8 = L eC l ∧ st 10 = .sl 0 0 a.length 1 ∧ st 36 = I a.length ∧ 1 ≤ h.nx ∧ ∃ flat, h.bl 0 = some (.cells false true flat) ∧ RowsAt (e1 I) 1 h flat (partR a l k 0) ∧ ∀ (j id off n s : Nat), flat[j]? = some (AV.sl id off n s) → id ≠ 0)
    (by simp (disch := first | (simp only [go_sem, Bool.and_self, eq_self]; done) | omega | (simp only [List.length_cons, List.length_nil]; omega)) only [go_sem, ↓reduceIte, Nat.reduceEqDiff, Nat.reduceAdd, Nat.reduceMul, Nat.reduceSub, Int.reduceToNat, Nat.reduceBEq, List.size_toArray, List.length_cons, List.length_nil, Bool.false_and, Bool.true_and, Bool.or_false, Bool.false_or, Bool.and_false, Bool.and_true]) ⟨by simp (disch := first | (simp only [go_sem, Bool.and_self, eq_self]; done) | omega | (simp only [List.length_cons, List.length_nil]; omega)) only [go_sem, ↓reduceIte, Nat.reduceEqDiff, Nat.reduceAdd, Nat.reduceMul, Nat.reduceSub, Int.reduceToNat, Nat.reduceBEq, List.size_toArray, List.length_cons, List.length_nil, Bool.false_and, Bool.true_and, Bool.or_false, Bool.false_or, Bool.and_false, Bool.and_true], by simp (disch := first | (simp only [go_sem, Bool.and_self, eq_self]; done) | omega | (simp only [List.length_cons, List.length_nil]; omega)) only [go_sem, ↓reduceIte, Nat.reduceEqDiff, Nat.reduceAdd, Nat.reduceMul, Nat.reduceSub, Int.reduceToNat, Nat.reduceBEq, List.size_toArray, List.length_cons, List.length_nil, Bool.false_and, Bool.true_and, Bool.or_false, Bool.false_or, Bool.and_false, Bool.and_true], by simp (disch := first | (simp only [go_sem, Bool.and_self, eq_self]; done) | omega | (simp only [List.length_cons, List.length_nil]; omega)) only [go_sem, ↓reduceIte, Nat.reduceEqDiff, Nat.reduceAdd, Nat.reduceMul, Nat.reduceSub, Int.reduceToNat, Nat.reduceBEq, List.size_toArray, List.length_cons, List.length_nil, Bool.false_and, Bool.true_and, Bool.or_false, Bool.false_or, Bool.and_false, Bool.and_true], by simp (disch := first | (simp only [go_sem, Bool.and_self, eq_self]; done) | omega | (simp only [List.length_cons, List.length_nil]; omega)) only [go_sem, ↓reduceIte, Nat.reduceEqDiff, Nat.reduceAdd, Nat.reduceMul, Nat.reduceSub, Int.reduceToNat, Nat.reduceBEq, List.size_toArray, List.length_cons, List.length_nil, Bool.false_and, Bool.true_and, Bool.or_false, Bool.false_or, Bool.and_false, Bool.and_true, Nat.le_refl], _, by simp (disch := first | (simp only [go_sem, Bool.and_self, eq_self]; done) | omega | (simp only [List.length_cons, List.length_nil]; omega)) only [go_sem, ↓reduceIte, Nat.reduceEqDiff, Nat.reduceAdd, Nat.reduceMul, Nat.reduceSub, Int.reduceToNat, Nat.reduceBEq, List.size_toArray, List.length_cons, List.length_nil, Bool.false_and, Bool.true_and, Bool.or_false, Bool.false_or, Bool.and_false, Bool.and_true]; rfl, by rw [partR_zero]; exact RowsAt.nils _, ?_⟩ ?_
  · intro j id off n s hj
    rw [List.getElem?_replicate] at hj
    split at hj <;> cases hj
  rintro k st h hi s37 ⟨s8, s10, s36, hnx, flat, b0, hrows, hne0⟩
  by_cases hlt : k < a.length
  case neg =>
    have hke : k = a.length := by omega
    subst hke
    rw [partR_full] at hrows
    simp (disch := first | (simp only [go_sem, Bool.and_self, eq_self]; done) | omega | (simp only [List.length_cons, List.length_nil]; omega)) only [go_sem, ↓reduceIte, Nat.reduceEqDiff, Nat.reduceAdd, Nat.reduceMul, Nat.reduceSub, Int.reduceToNat, Nat.reduceBEq, List.size_toArray, List.length_cons, List.length_nil, Bool.false_and, Bool.true_and, Bool.or_false, Bool.false_or, Bool.and_false, Bool.and_true, s8, s10, s36, s37, hlt]
    exact ⟨flat, b0, hrows, hne0⟩
  simp (disch := first | (simp only [go_sem, Bool.and_self, eq_self]; done) | omega | (simp only [List.length_cons, List.length_nil]; omega)) only [go_sem, ↓reduceIte, Nat.reduceEqDiff, Nat.reduceAdd, Nat.reduceMul, Nat.reduceSub, Int.reduceToNat, Nat.reduceBEq, List.size_toArray, List.length_cons, List.length_nil, Bool.false_and, Bool.true_and, Bool.or_false, Bool.false_or, Bool.and_false, Bool.and_true, s8, s10, s36, s37, hlt]
  refine WP_for 42 l.length (fun j st h => st 8 = L eC l ∧ st 10 = .sl 0 0 a.length 1 ∧ st 36 = I a.length ∧ st 37 = I k ∧ st 11 = I k ∧ st 40 = L eC l ∧ st 41 = I l.length ∧ 1 ≤ h.nx ∧ ∃ flat, h.bl 0 = some (.cells false true flat) ∧ RowsAt (e1 I) 1 h flat (partR a l k j) ∧ ∀ (j id off n s : Nat), flat[j]? = some (AV.sl id off n s) → id ≠ 0)
    (by simp (disch := first | (simp only [go_sem, Bool.and_self, eq_self]; done) | omega | (simp only [List.length_cons, List.length_nil]; omega)) only [go_sem, ↓reduceIte, Nat.reduceEqDiff, Nat.reduceAdd, Nat.reduceMul, Nat.reduceSub, Int.reduceToNat, Nat.reduceBEq, List.size_toArray, List.length_cons, List.length_nil, Bool.false_and, Bool.true_and, Bool.or_false, Bool.false_or, Bool.and_false, Bool.and_true]) ⟨by simp (disch := first | (simp only [go_sem, Bool.and_self, eq_self]; done) | omega | (simp only [List.length_cons, List.length_nil]; omega)) only [go_sem, ↓reduceIte, Nat.reduceEqDiff, Nat.reduceAdd, Nat.reduceMul, Nat.reduceSub, Int.reduceToNat, Nat.reduceBEq, List.size_toArray, List.length_cons, List.length_nil, Bool.false_and, Bool.true_and, Bool.or_false, Bool.false_or, Bool.and_false, Bool.and_true, s8, s10, s36, s37], by simp (disch := first | (simp only [go_sem, Bool.and_self, eq_self]; done) | omega | (simp only [List.length_cons, List.length_nil]; omega)) only [go_sem, ↓reduceIte, Nat.reduceEqDiff, Nat.reduceAdd, Nat.reduceMul, Nat.reduceSub, Int.reduceToNat, Nat.reduceBEq, List.size_toArray, List.length_cons, List.length_nil, Bool.false_and, Bool.true_and, Bool.or_false, Bool.false_or, Bool.and_false, Bool.and_true, s8, s10, s36, s37], by simp (disch := first | (simp only [go_sem, Bool.and_self, eq_self]; done) | omega | (simp only [List.length_cons, List.length_nil]; omega)) only [go_sem, ↓reduceIte, Nat.reduceEqDiff, Nat.reduceAdd, Nat.reduceMul, Nat.reduceSub, Int.reduceToNat, Nat.reduceBEq, List.size_toArray, List.length_cons, List.length_nil, Bool.false_and, Bool.true_and, Bool.or_false, Bool.false_or, Bool.and_false, Bool.and_true, s8, s10, s36, s37], by simp (disch := first | (simp only [go_sem, Bool.and_self, eq_self]; done) | omega | (simp only [List.length_cons, List.length_nil]; omega)) only [go_sem, ↓reduceIte, Nat.reduceEqDiff, Nat.reduceAdd, Nat.reduceMul, Nat.reduceSub, Int.reduceToNat, Nat.reduceBEq, List.size_toArray, List.length_cons, List.length_nil, Bool.false_and, Bool.true_and, Bool.or_false, Bool.false_or, Bool.and_false, Bool.and_true, s8, s10, s36, s37], by simp (disch := first | (simp only [go_sem, Bool.and_self, eq_self]; done) | omega | (simp only [List.length_cons, List.length_nil]; omega)) only [go_sem, ↓reduceIte, Nat.reduceEqDiff, Nat.reduceAdd, Nat.reduceMul, Nat.reduceSub, Int.reduceToNat, Nat.reduceBEq, List.size_toArray, List.length_cons, List.length_nil, Bool.false_and, Bool.true_and, Bool.or_false, Bool.false_or, Bool.and_false, Bool.and_true, s8, s10, s36, s37], by simp (disch := first | (simp only [go_sem, Bool.and_self, eq_self]; done) | omega | (simp only [List.length_cons, List.length_nil]; omega)) only [go_sem, ↓reduceIte, Nat.reduceEqDiff, Nat.reduceAdd, Nat.reduceMul, Nat.reduceSub, Int.reduceToNat, Nat.reduceBEq, List.size_toArray, List.length_cons, List.length_nil, Bool.false_and, Bool.true_and, Bool.or_false, Bool.false_or, Bool.and_false, Bool.and_true, s8, s10, s36, s37], by simp (disch := first | (simp only [go_sem, Bool.and_self, eq_self]; done) | omega | (simp only [List.length_cons, List.length_nil]; omega)) only [go_sem, ↓reduceIte, Nat.reduceEqDiff, Nat.reduceAdd, Nat.reduceMul, Nat.reduceSub, Int.reduceToNat, Nat.reduceBEq, List.size_toArray, List.length_cons, List.length_nil, Bool.false_and, Bool.true_and, Bool.or_false, Bool.false_or, Bool.and_false, Bool.and_true, s8, s10, s36, s37], hnx, flat, by simp (disch := first | (simp only [go_sem, Bool.and_self, eq_self]; done) | omega | (simp only [List.length_cons, List.length_nil]; omega)) only [go_sem, ↓reduceIte, Nat.reduceEqDiff, Nat.reduceAdd, Nat.reduceMul, Nat.reduceSub, Int.reduceToNat, Nat.reduceBEq, List.size_toArray, List.length_cons, List.length_nil, Bool.false_and, Bool.true_and, Bool.or_false, Bool.false_or, Bool.and_false, Bool.and_true, b0], hrows, hne0⟩ ?_
  rintro j st h hj s42 ⟨s8, s10, s36, s37, s11, s40, s41, hnx, flat, b0, hrows, hne0⟩
  by_cases hjl : j < l.length
  case neg =>
    have hje : j = l.length := by omega
    subst hje
    simp (disch := first | (simp only [go_sem, Bool.and_self, eq_self]; done) | omega | (simp only [List.length_cons, List.length_nil]; omega)) only [go_sem, ↓reduceIte, Nat.reduceEqDiff, Nat.reduceAdd, Nat.reduceMul, Nat.reduceSub, Int.reduceToNat, Nat.reduceBEq, List.size_toArray, List.length_cons, List.length_nil, Bool.false_and, Bool.true_and, Bool.or_false, Bool.false_or, Bool.and_false, Bool.and_true, s8, s10, s36, s37, s11, s40, s41, s42, hjl]
    rw [ForK_normal]
    exact ⟨hlt, by simp (disch := first | (simp only [go_sem, Bool.and_self, eq_self]; done) | omega | (simp only [List.length_cons, List.length_nil]; omega)) only [go_sem, ↓reduceIte, Nat.reduceEqDiff, Nat.reduceAdd, Nat.reduceMul, Nat.reduceSub, Int.reduceToNat, Nat.reduceBEq, List.size_toArray, List.length_cons, List.length_nil, Bool.false_and, Bool.true_and, Bool.or_false, Bool.false_or, Bool.and_false, Bool.and_true, s37], by simp (disch := first | (simp only [go_sem, Bool.and_self, eq_self]; done) | omega | (simp only [List.length_cons, List.length_nil]; omega)) only [go_sem, ↓reduceIte, Nat.reduceEqDiff, Nat.reduceAdd, Nat.reduceMul, Nat.reduceSub, Int.reduceToNat, Nat.reduceBEq, List.size_toArray, List.length_cons, List.length_nil, Bool.false_and, Bool.true_and, Bool.or_false, Bool.false_or, Bool.and_false, Bool.and_true, s8], by simp (disch := first | (simp only [go_sem, Bool.and_self, eq_self]; done) | omega | (simp only [List.length_cons, List.length_nil]; omega)) only [go_sem, ↓reduceIte, Nat.reduceEqDiff, Nat.reduceAdd, Nat.reduceMul, Nat.reduceSub, Int.reduceToNat, Nat.reduceBEq, List.size_toArray, List.length_cons, List.length_nil, Bool.false_and, Bool.true_and, Bool.or_false, Bool.false_or, Bool.and_false, Bool.and_true, s10], by simp (disch := first | (simp only [go_sem, Bool.and_self, eq_self]; done) | omega | (simp only [List.length_cons, List.length_nil]; omega)) only [go_sem, ↓reduceIte, Nat.reduceEqDiff, Nat.reduceAdd, Nat.reduceMul, Nat.reduceSub, Int.reduceToNat, Nat.reduceBEq, List.size_toArray, List.length_cons, List.length_nil, Bool.false_and, Bool.true_and, Bool.or_false, Bool.false_or, Bool.and_false, Bool.and_true, s36], hnx, flat, b0, by rw [← partR_next]; exact hrows, hne0⟩
  have hfll : flat.length = a.length := by rw [hrows.len, partR_len]
  have hk6 : k < 6 := by omega
  have hst2 : ∀ (h : Hp) (id : Nat), storeC h id 0 6 (some (.cells false false [I 0, I 0, I 0, I 0, I 0, I 0])) (eC (nth l j)) = some (.skp, h.put id (some (.cells false false (eC (nth l j))))) := fun h id => storeC_row id false [I 0, I 0, I 0, I 0, I 0, I 0] (nth l j) rfl
  have hld := loadC_row (f := eC) (.array 6 3) rfl (nth l j)
  have hg := eC_get (x := nth l j) hk6
  obtain ⟨v, hv⟩ : ∃ v, flat[k]? = some v := ⟨_, List.getElem?_eq_getElem (by omega)⟩
  have how := hrows.own k v hv
  rw [partR_nth hlt, if_neg (by omega), if_pos rfl] at how
  generalize hG : (h.alloc (.cells false false [I 0, I 0, I 0, I 0, I 0, I 0])).put h.nx (some (.cells false false (eC (nth l j)))) = G
  have hG1 : G.bl h.nx = some (.cells false false (eC (nth l j))) := by rw [← hG]; simp (disch := first | (simp only [go_sem, Bool.and_self, eq_self]; done) | omega | (simp only [List.length_cons, List.length_nil]; omega)) only [go_sem, ↓reduceIte, Nat.reduceEqDiff, Nat.reduceAdd, Nat.reduceMul, Nat.reduceSub, Int.reduceToNat, Nat.reduceBEq, List.size_toArray, List.length_cons, List.length_nil, Bool.false_and, Bool.true_and, Bool.or_false, Bool.false_or, Bool.and_false, Bool.and_true]
  have hG2 : G.nx = h.nx + 1 := by rw [← hG]; simp (disch := first | (simp only [go_sem, Bool.and_self, eq_self]; done) | omega | (simp only [List.length_cons, List.length_nil]; omega)) only [go_sem, ↓reduceIte, Nat.reduceEqDiff, Nat.reduceAdd, Nat.reduceMul, Nat.reduceSub, Int.reduceToNat, Nat.reduceBEq, List.size_toArray, List.length_cons, List.length_nil, Bool.false_and, Bool.true_and, Bool.or_false, Bool.false_or, Bool.and_false, Bool.and_true]
  have hG3 : ∀ id, id < h.nx → G.bl id = h.bl id := by intro id hid; rw [← hG]; simp (disch := first | (simp only [go_sem, Bool.and_self, eq_self]; done) | omega | (simp only [List.length_cons, List.length_nil]; omega)) only [go_sem, ↓reduceIte, Nat.reduceEqDiff, Nat.reduceAdd, Nat.reduceMul, Nat.reduceSub, Int.reduceToNat, Nat.reduceBEq, List.size_toArray, List.length_cons, List.length_nil, Bool.false_and, Bool.true_and, Bool.or_false, Bool.false_or, Bool.and_false, Bool.and_true, Nat.ne_of_lt hid]
  have hG0 : G.bl 0 = some (.cells false true flat) := by rw [hG3 0 (by omega)]; exact b0
  have hrowsG : RowsAt (e1 I) 1 G flat (partR a l k j) := hrows.mono (by omega) fun i id off n s hi => by
    rcases hrows.own i _ hi with ⟨q, _⟩ | ⟨id', q, h1, _⟩
    · cases q
    · cases q; exact hG3 id h1
  have howG := how.mono (h' := G) (by omega) hG3
  have htl : ((l.take j).map fun x => nth x k).length ≤ 4 := by simp; omega
  have hbs := fun h : Hp => bsB_one (P := Try.prog) (h := h) 3 (I (nth (nth l j) k)) (I (nth (nth l j) k)) (I 0) h isz3 izero3 rfl rfl rfl rfl rfl rfl rfl
  have happ := app_one (P := Try.prog) howG 3 8 (I 0) (nth (nth l j) k) isz3 ibytes3 izero3 rfl (by omega) (by omega)
  have n0 : ¬ 0 = h.nx := by omega
  have c0 : (appH G v ((((l.take j).map fun x => nth x k) ++ [nth (nth l j) k]).flatMap (e1 I))).bl 0 = some (.cells false true flat) := by
    rw [appH_bl _ _ _ _ (by omega) (fun id off n s e => by subst e; exact (hne0 k id off n s hv).symm)]; exact hG0
  have hstv : ∀ (h : Hp) (id o n s : Nat), storeC h 0 k 1 (some (.cells false true flat)) [.sl id o n s] = some (.skp, h.put 0 (some (.cells false true (flat.set k (.sl id o n s))))) := fun h id o n s => storeC_one 0 k true flat _ rfl (by omega)
  have hlim : ∀ n, 0 < n → lims (some n) 0 = true := fun n hn => by simp [lims, hn]
  have hlim2 : lims (some (h.nx + 1)) h.nx = true := by simp [lims]
  simp (disch := first | (simp only [go_sem, Bool.and_self, eq_self]; done) | omega | (simp only [List.length_cons, List.length_nil]; omega)) only [go_sem, ↓reduceIte, Nat.reduceEqDiff, Nat.reduceAdd, Nat.reduceMul, Nat.reduceSub, Int.reduceToNat, Nat.reduceBEq, List.size_toArray, List.length_cons, List.length_nil, Bool.false_and, Bool.true_and, Bool.or_false, Bool.false_or, Bool.and_false, Bool.and_true, s8, s10, s36, s37, s11, s40, s41, s42, hjl, hld, hst2, hG, hG0, hG1, hG2, n0, hv, hg, hbs, happ, c0, hstv, appV, hlim, hlim2]
  rw [ForK_normal]
  have hrows2 := hrowsG.app hv (((l.take j).map fun x => nth x k) ++ [nth (nth l j) k]) 0 (.cells false true (flat.set k (appV G (((l.take j).map fun x => nth x k) ++ [nth (nth l j) k]).length 1))) hne0 (by omega)
  rw [partR_set hlt hjl] at hrows2
  unfold appV at hrows2
  refine ⟨hjl, by simp (disch := first | (simp only [go_sem, Bool.and_self, eq_self]; done) | omega | (simp only [List.length_cons, List.length_nil]; omega)) only [go_sem, ↓reduceIte, Nat.reduceEqDiff, Nat.reduceAdd, Nat.reduceMul, Nat.reduceSub, Int.reduceToNat, Nat.reduceBEq, List.size_toArray, List.length_cons, List.length_nil, Bool.false_and, Bool.true_and, Bool.or_false, Bool.false_or, Bool.and_false, Bool.and_true, s42], by simp (disch := first | (simp only [go_sem, Bool.and_self, eq_self]; done) | omega | (simp only [List.length_cons, List.length_nil]; omega)) only [go_sem, ↓reduceIte, Nat.reduceEqDiff, Nat.reduceAdd, Nat.reduceMul, Nat.reduceSub, Int.reduceToNat, Nat.reduceBEq, List.size_toArray, List.length_cons, List.length_nil, Bool.false_and, Bool.true_and, Bool.or_false, Bool.false_or, Bool.and_false, Bool.and_true, s8], by simp (disch := first | (simp only [go_sem, Bool.and_self, eq_self]; done) | omega | (simp only [List.length_cons, List.length_nil]; omega)) only [go_sem, ↓reduceIte, Nat.reduceEqDiff, Nat.reduceAdd, Nat.reduceMul, Nat.reduceSub, Int.reduceToNat, Nat.reduceBEq, List.size_toArray, List.length_cons, List.length_nil, Bool.false_and, Bool.true_and, Bool.or_false, Bool.false_or, Bool.and_false, Bool.and_true, s10], by simp (disch := first | (simp only [go_sem, Bool.and_self, eq_self]; done) | omega | (simp only [List.length_cons, List.length_nil]; omega)) only [go_sem, ↓reduceIte, Nat.reduceEqDiff, Nat.reduceAdd, Nat.reduceMul, Nat.reduceSub, Int.reduceToNat, Nat.reduceBEq, List.size_toArray, List.length_cons, List.length_nil, Bool.false_and, Bool.true_and, Bool.or_false, Bool.false_or, Bool.and_false, Bool.and_true, s36], by simp (disch := first | (simp only [go_sem, Bool.and_self, eq_self]; done) | omega | (simp only [List.length_cons, List.length_nil]; omega)) only [go_sem, ↓reduceIte, Nat.reduceEqDiff, Nat.reduceAdd, Nat.reduceMul, Nat.reduceSub, Int.reduceToNat, Nat.reduceBEq, List.size_toArray, List.length_cons, List.length_nil, Bool.false_and, Bool.true_and, Bool.or_false, Bool.false_or, Bool.and_false, Bool.and_true, s37], by simp (disch := first | (simp only [go_sem, Bool.and_self, eq_self]; done) | omega | (simp only [List.length_cons, List.length_nil]; omega)) only [go_sem, ↓reduceIte, Nat.reduceEqDiff, Nat.reduceAdd, Nat.reduceMul, Nat.reduceSub, Int.reduceToNat, Nat.reduceBEq, List.size_toArray, List.length_cons, List.length_nil, Bool.false_and, Bool.true_and, Bool.or_false, Bool.false_or, Bool.and_false, Bool.and_true, s11], by simp (disch := first | (simp only [go_sem, Bool.and_self, eq_self]; done) | omega | (simp only [List.length_cons, List.length_nil]; omega)) only [go_sem, ↓reduceIte, Nat.reduceEqDiff, Nat.reduceAdd, Nat.reduceMul, Nat.reduceSub, Int.reduceToNat, Nat.reduceBEq, List.size_toArray, List.length_cons, List.length_nil, Bool.false_and, Bool.true_and, Bool.or_false, Bool.false_or, Bool.and_false, Bool.and_true, s40], by simp (disch := first | (simp only [go_sem, Bool.and_self, eq_self]; done) | omega | (simp only [List.length_cons, List.length_nil]; omega)) only [go_sem, ↓reduceIte, Nat.reduceEqDiff, Nat.reduceAdd, Nat.reduceMul, Nat.reduceSub, Int.reduceToNat, Nat.reduceBEq, List.size_toArray, List.length_cons, List.length_nil, Bool.false_and, Bool.true_and, Bool.or_false, Bool.false_or, Bool.and_false, Bool.and_true, s41], by rw [put_nx, appH_nx]; omega, _, by simp (disch := first | (simp only [go_sem, Bool.and_self, eq_self]; done) | omega | (simp only [List.length_cons, List.length_nil]; omega)) only [go_sem, ↓reduceIte, Nat.reduceEqDiff, Nat.reduceAdd, Nat.reduceMul, Nat.reduceSub, Int.reduceToNat, Nat.reduceBEq, List.size_toArray, List.length_cons, List.length_nil, Bool.false_and, Bool.true_and, Bool.or_false, Bool.false_or, Bool.and_false, Bool.and_true]; rfl, ?_, ?_⟩
  · rw [hG2] at hrows2; exact hrows2
  · intro i id off n s hi
    rw [List.getElem?_set] at hi
    split at hi
    · split at hi
      · cases hi; omega
      · cases hi
    · exact hne0 i id off n s hi

theorem f20_L (a : List (List Int)) (ha : okLL a) (cn dn : Nat) (ht : taskB a dn = true) (hc : 1 ≤ cn ∧ cn ≤ 4) : (∃ l, planF a dn cn = some l ∧ Con Try.prog cfgL 20 [LLI a, I cn, I dn] (.tup [.own (.fresh 1 (frR (cutsOf a l))), I 0])) ∨ (planF a dn cn = none ∧ Con Try.prog cfgL 20 [LLI a, I cn, I dn] (.tup [LLI [], I 6])) := by
  have hcon := f20_con a ha cn dn
  have hci : 1 ≤ (cn : Int) ∧ (cn : Int) ≤ 4 := by omega
  have ht' := ht
  simp only [taskB, Bool.and_eq_true, decide_eq_true_eq] at ht'
  have f := Pl.of ht'.1
  have hk := f.keys
  cases hp : planF a dn cn with
  | none =>
    refine .inr ⟨rfl, ?_⟩
    have g1 : planM a cn dn = [] := by simp only [planM, ht, decide_eq_true hci, Bool.and_self, if_true, Int.toNat_natCast, hp]
    have e2 : planE a cn dn = 6 := by simp only [planE, ht, decide_eq_true hci, Bool.and_self, if_true, Int.toNat_natCast, hp, Option.isSome_none]; rfl
    rw [g1, e2] at hcon
    have := thawC (f := 20) rfl rfl hcon (by
      obtain ⟨k, hk⟩ := hcon
      exact (sound hext0 k).2.2.1 _ _ _ hk)
    exact this
  | some l =>
    refine .inl ⟨l, rfl, ?_⟩
    have g1 : planM a cn dn = cutsOf a l := by simp only [planM, ht, decide_eq_true hci, Bool.and_self, if_true, Int.toNat_natCast, hp]
    have e2 : planE a cn dn = 0 := by simp only [planE, ht, decide_eq_true hci, Bool.and_self, if_true, Int.toNat_natCast, hp, Option.isSome_some]
    rw [g1, e2] at hcon
    have hll : l.length = cn := by
      rw [planF] at hp
      obtain ⟨r, h1, rfl⟩ := Option.map_eq_some_iff.1 hp
      have := covF_len h1
      simp; omega
    have hcl : (cutsOf a l).length = a.length := by simp [cutsOf]
    have hne : cutsOf a l ≠ [] := fun e => by rw [e] at hcl; simp at hcl; omega
    have hrl : ∀ r ∈ cutsOf a l, 0 < r.length := fun r hr => by
      simp only [cutsOf, List.mem_map] at hr
      obtain ⟨k, _, rfl⟩ := hr
      rw [List.length_map]; omega
    obtain ⟨v, h', hs, flat, rfl, b0, hrows, hne0⟩ := f20_S a ha cn dn ht hc l hp
    have := thawC (f := 20) rfl rfl hcon (by
      rw [thawV_rows _ _ hne]
      refine pure_of_shr (ow := true) (kn := true) (ts := [22, 28]) hext0 hs ?_
      obtain ⟨u, hu, _⟩ := freshV_at hrows hrl 0 b0 hne0
      rw [hcl] at hu
      have x1 : exportV Try.prog true true 22 h' [] (.sl 0 0 a.length 1) = some (.own (.fresh 1 (frR (cutsOf a l))), h', u) := by
        unfold exportV
        rw [if_pos rfl, if_pos rfl, if_neg (by simp [AV.isPure]), hu]; rfl
      show (exportL Try.prog true true h' [] [22, 28] [.sl 0 0 a.length 1, I 0]).map AV.tup = _
      simp only [exportL, x1, Option.bind_some]
      rfl)
    rw [thawV_rows _ _ hne] at this
    exact this
theorem f46_S (x : Int) (xs : List Int) (hx : (x :: xs).length ≤ 1000000) : ∃ v h', Shr Try.prog cfg 46 [LI (x :: xs)] Hp.empty v h' ∧ v = .sl 1 0 (x :: xs).length 1 ∧ h'.bl 1 = some (.cells false true ((x :: xs).flatMap (e1 I))) := by
  refine Shr_intro (h := Hp.empty) Try.func46 rfl ok46 (Nat.le_of_ble_eq_true rfl) ?_
  simp only [Try.f46, Option.getD_some, initSt1]
  have happ := app_own (P := Try.prog) (h := Hp.empty.alloc (.cells false true [])) (f := e1 I) 3 8 (I 0) (LI (x :: xs)) 0 [] (x :: xs) 0 isz3 ibytes3 izero3 rfl rfl rfl (cellsOf_L _ _) (lenA_L _ _) (by rw [List.length_nil]; omega) (by rw [List.length_nil]; omega)
  have heq : binA Try.prog .eql 27 (LI (x :: xs)) .nil = some (.bool false) := eql_nil_cons 27 3 und27 _ _
  have hbe := bsB_empty (P := Try.prog) (h := Hp.empty) 3 1 (I 0) isz3 izero3 (by decide)
  simp (disch := first | (simp only [go_sem, Bool.and_self, eq_self]; done) | omega | (simp only [List.length_cons, List.length_nil]; omega)) only [go_sem, ↓reduceIte, Nat.reduceEqDiff, Nat.reduceAdd, Nat.reduceMul, Nat.reduceSub, Int.reduceToNat, Nat.reduceBEq, List.size_toArray, List.length_cons, List.length_nil, Bool.false_and, Bool.true_and, Bool.or_false, Bool.false_or, Bool.and_false, Bool.and_true, heq, hbe, happ, List.length_nil]
theorem f46_L (r : List Int) (h0 : 0 < r.length) (hr : r.length ≤ 1000000) : Con Try.prog cfgL 46 [LI r] (.fresh 1 (r.flatMap (e1 I))) := by
  cases r with
  | nil => cases h0
  | cons x xs =>
    obtain ⟨v, h', hs, rfl, hb⟩ := f46_S x xs hr
    have := thawC (f := 46) rfl rfl (f46_con x xs hr) (by
      rw [thawV_row]
      refine pure_of_shr (ow := true) (kn := false) (ts := [27]) hext0 hs ?_
      have x1 : exportV Try.prog true false 27 h' [] (.sl 1 0 (x :: xs).length 1) = some (.fresh 1 ((x :: xs).flatMap (e1 I)), h', [1]) := by
        unfold exportV
        rw [if_pos rfl, if_neg (by simp)]
        simp only [hb]
        rw [if_pos ⟨pureL_flatMap (x :: xs), trivial, by decide, by rw [flatMap_len (f := e1 I) (sz := 1)], by simp⟩]
      show (match exportV Try.prog true false 27 h' [] (.sl 1 0 (x :: xs).length 1) with | r => r.bind fun r => if isTup r.1 then none else some r.1) = _
      rw [x1]; rfl)
    rw [thawV_row] at this
    exact this
theorem kL46 (r : List Int) (h0 : 0 < r.length) (hr : r.length ≤ 1000000) : ConW Try.prog cfgL 46 h (some ([LI r], h')) K = K (.sl h'.nx 0 r.length 1) (h'.alloc (.cells false true (r.flatMap (e1 I)))) := by
  rw [ConW_any (f46_L r h0 hr) rfl, importR_fresh, flat_len, Nat.div_one]
end Go.Proofs.Ytkjdnnedncomgaa

set_option linter.unusedVariables false
set_option linter.unusedSimpArgs false
set_option maxRecDepth 10000
namespace Go.Proofs.Ytkjdnnedncomgaa
open Go Go.Am

variable {h h' : Hp} {K : AV → Hp → Prop}

theorem bsD_sl (h : Hp) (q n : Nat) : bsD Try.prog h (some (.slice 27)) 1 [(0, .sl q 0 n 1)] = some (.sl h.nx 0 1 1, h.alloc (.cells false true [.sl q 0 n 1])) := bsD_one 27 (.sl q 0 n 1) .nil isz27 izero27 rfl rfl rfl rfl rfl
theorem bsD_int (h : Hp) (x : Int) : bsD Try.prog h (some (.slice 3)) 1 [(0, I x)] = some (.sl h.nx 0 1 1, h.alloc (.cells false true [I x])) := bsD_one 3 (I x) (I 0) isz3 izero3 rfl rfl rfl rfl rfl
theorem f29_L (a : List (List Int)) (ha : okLL a) (hp : isPlanB a = true) : Con Try.prog cfgL 29 [LLI a] (.tup [.own (.fresh 1 (frR (mrgO a a.length))), .own (.fresh 1 ((mrgL a a.length).flatMap (e1 I))), I 0]) := by
  have kk1 := fun h h' K => ConW_num (h := h) (h' := h') (K := K) (toL (by decide) (f32_con a ha)) rfl
  have hpl := hp
  simp only [isPlanB, Bool.and_eq_true, decide_eq_true_eq] at hpl
  obtain ⟨⟨p1, p2⟩, p3⟩ := hpl
  have hrw : ∀ i, i < a.length → 0 < (nth a i).length ∧ (nth a i).length ≤ 6 := fun i hi => by
    have := all_nth p3 hi
    simp only [Bool.and_eq_true, decide_eq_true_eq] at this
    have := this.1
    omega
  have hpos : ∀ n, n ≤ a.length → ∀ r ∈ mrgO a n, 0 < r.length := fun n hn r hr => by
    obtain ⟨j, hj, rfl⟩ := mrgO_mem hr
    exact (hrw j (by omega)).1
  refine Con_intro Try.func29 rfl okL29 (Nat.le_of_ble_eq_true rfl) rfl ?_
  simp only [Try.f29, Option.getD_some, initSt1]
  simp (disch := first | (simp only [go_sem, Bool.and_self, eq_self]; done) | omega | (simp only [List.length_cons, List.length_nil]; omega)) only [go_sem, ↓reduceIte, Nat.reduceEqDiff, Nat.reduceAdd, Nat.reduceMul, Nat.reduceSub, Int.reduceToNat, Nat.reduceBEq, List.size_toArray, List.length_cons, List.length_nil, Bool.false_and, Bool.true_and, Bool.or_false, Bool.false_or, Bool.and_false, Bool.and_true, kk1, hp]
  refine WP_for 15 a.length (fun i st h => st 13 = LLI a ∧ st 14 = I a.length ∧ ∃ v w flat, st 5 = v ∧ st 6 = w ∧ RN h v w flat (mrgO a i) (mrgL a i) ∧ (0 < i → 0 < (mrgO a i).length)) (by simp (disch := first | (simp only [go_sem, Bool.and_self, eq_self]; done) | omega | (simp only [List.length_cons, List.length_nil]; omega)) only [go_sem, ↓reduceIte, Nat.reduceEqDiff, Nat.reduceAdd, Nat.reduceMul, Nat.reduceSub, Int.reduceToNat, Nat.reduceBEq, List.size_toArray, List.length_cons, List.length_nil, Bool.false_and, Bool.true_and, Bool.or_false, Bool.false_or, Bool.and_false, Bool.and_true]) ⟨by simp (disch := first | (simp only [go_sem, Bool.and_self, eq_self]; done) | omega | (simp only [List.length_cons, List.length_nil]; omega)) only [go_sem, ↓reduceIte, Nat.reduceEqDiff, Nat.reduceAdd, Nat.reduceMul, Nat.reduceSub, Int.reduceToNat, Nat.reduceBEq, List.size_toArray, List.length_cons, List.length_nil, Bool.false_and, Bool.true_and, Bool.or_false, Bool.false_or, Bool.and_false, Bool.and_true], by simp (disch := first | (simp only [go_sem, Bool.and_self, eq_self]; done) | omega | (simp only [List.length_cons, List.length_nil]; omega)) only [go_sem, ↓reduceIte, Nat.reduceEqDiff, Nat.reduceAdd, Nat.reduceMul, Nat.reduceSub, Int.reduceToNat, Nat.reduceBEq, List.size_toArray, List.length_cons, List.length_nil, Bool.false_and, Bool.true_and, Bool.or_false, Bool.false_or, Bool.and_false, Bool.and_true], .nil, .nil, [], by simp (disch := first | (simp only [go_sem, Bool.and_self, eq_self]; done) | omega | (simp only [List.length_cons, List.length_nil]; omega)) only [go_sem, ↓reduceIte, Nat.reduceEqDiff, Nat.reduceAdd, Nat.reduceMul, Nat.reduceSub, Int.reduceToNat, Nat.reduceBEq, List.size_toArray, List.length_cons, List.length_nil, Bool.false_and, Bool.true_and, Bool.or_false, Bool.false_or, Bool.and_false, Bool.and_true], by simp (disch := first | (simp only [go_sem, Bool.and_self, eq_self]; done) | omega | (simp only [List.length_cons, List.length_nil]; omega)) only [go_sem, ↓reduceIte, Nat.reduceEqDiff, Nat.reduceAdd, Nat.reduceMul, Nat.reduceSub, Int.reduceToNat, Nat.reduceBEq, List.size_toArray, List.length_cons, List.length_nil, Bool.false_and, Bool.true_and, Bool.or_false, Bool.false_or, Bool.and_false, Bool.and_true], RN.nil _, by omega⟩ ?_
  rintro i st h hi s15 ⟨s13, s14, v, w, flat, s5, s6, m, hpo⟩
  have hll := mrgL_len a i
  by_cases hlt : i < a.length
  case neg =>
    have hie : i = a.length := by omega
    subst hie
    have hx := m.export (P := Try.prog) (hpo (by omega)) (by rw [hll]; omega) (hpos _ (Nat.le_refl _)) 22 27 28 0
    simp (disch := first | (simp only [go_sem, Bool.and_self, eq_self]; done) | omega | (simp only [List.length_cons, List.length_nil]; omega)) only [go_sem, ↓reduceIte, Nat.reduceEqDiff, Nat.reduceAdd, Nat.reduceMul, Nat.reduceSub, Int.reduceToNat, Nat.reduceBEq, List.size_toArray, List.length_cons, List.length_nil, Bool.false_and, Bool.true_and, Bool.or_false, Bool.false_or, Bool.and_false, Bool.and_true, s13, s14, s15, s5, s6, hlt, hx]
  have hrl := hrw i hlt
  have hml := mrgO_len a i
  generalize hG : ((h.alloc (.cells false false [.nil])).put h.nx (some (.cells false false [LI (nth a i)]))) = G
  have hG1 : G.bl h.nx = some (.cells false false [LI (nth a i)]) := by rw [← hG]; simp (disch := first | (simp only [go_sem, Bool.and_self, eq_self]; done) | omega | (simp only [List.length_cons, List.length_nil]; omega)) only [go_sem, ↓reduceIte, Nat.reduceEqDiff, Nat.reduceAdd, Nat.reduceMul, Nat.reduceSub, Int.reduceToNat, Nat.reduceBEq, List.size_toArray, List.length_cons, List.length_nil, Bool.false_and, Bool.true_and, Bool.or_false, Bool.false_or, Bool.and_false, Bool.and_true]
  have hG2 : ∀ id, id < h.nx → G.bl id = h.bl id := by intro id hid; rw [← hG]; simp (disch := first | (simp only [go_sem, Bool.and_self, eq_self]; done) | omega | (simp only [List.length_cons, List.length_nil]; omega)) only [go_sem, ↓reduceIte, Nat.reduceEqDiff, Nat.reduceAdd, Nat.reduceMul, Nat.reduceSub, Int.reduceToNat, Nat.reduceBEq, List.size_toArray, List.length_cons, List.length_nil, Bool.false_and, Bool.true_and, Bool.or_false, Bool.false_or, Bool.and_false, Bool.and_true, Nat.ne_of_lt hid]
  have hG3 : G.nx = h.nx + 1 := by rw [← hG]; simp (disch := first | (simp only [go_sem, Bool.and_self, eq_self]; done) | omega | (simp only [List.length_cons, List.length_nil]; omega)) only [go_sem, ↓reduceIte, Nat.reduceEqDiff, Nat.reduceAdd, Nat.reduceMul, Nat.reduceSub, Int.reduceToNat, Nat.reduceBEq, List.size_toArray, List.length_cons, List.length_nil, Bool.false_and, Bool.true_and, Bool.or_false, Bool.false_or, Bool.and_false, Bool.and_true]
  have mG := m.mono (h' := G) (by omega) hG2
  obtain ⟨G2, es1, es2, es3⟩ := seal_live mG.lv mG.rw (hpos i (by omega)) mG.ho
  have hG4 : G2.bl h.nx = some (.cells false false [LI (nth a i)]) := by
    rw [es3 _ (fun hv => by have := m.lv.lt hv; omega) (fun j off n s hj => by have := m.rw.lt hj; omega)]; exact hG1
  have es4 := sealA_fn1 44 h.nx false false (LI (nth a i)) (pure_L _) hG4
  have kk2 := fun h h' K => ConW_num (h := h) (h' := h') (K := K) (toL (by decide) (f43_con (mrgO a i) (by omega) (nth a i) (by omega))) rfl
  have kk3 := fun h h' K => kL46 (h := h) (h' := h') (K := K) (nth a i) hrl.1 (by omega)
  have hlenv := m.lv.lenB 27
  have hfl := m.rw.len
  by_cases hm : nth a i ∈ mrgO a i
  · obtain ⟨w', H, happ, m2⟩ := mG.num (P := Try.prog) (idxR (mrgO a i) (nth a i)) 3 isz3 ibytes3 izero3 (by omega)
    have hfr := findR_mem hm
    have hnn : ¬ ((idxR (mrgO a i) (nth a i) : Nat) : Int) < 0 := by omega
    simp (disch := first | (simp only [go_sem, Bool.and_self, eq_self]; done) | omega | (simp only [List.length_cons, List.length_nil]; omega)) only [go_sem, ↓reduceIte, Nat.reduceEqDiff, Nat.reduceAdd, Nat.reduceMul, Nat.reduceSub, Int.reduceToNat, Nat.reduceBEq, List.size_toArray, List.length_cons, List.length_nil, Bool.false_and, Bool.true_and, Bool.or_false, Bool.false_or, Bool.and_false, Bool.and_true, s13, s14, s15, s5, s6, hlt, hG, es1, es4, kk2, hfr, hnn, bsD_int, happ]
    rw [ForK_normal]
    refine ⟨hlt, by simp (disch := first | (simp only [go_sem, Bool.and_self, eq_self]; done) | omega | (simp only [List.length_cons, List.length_nil]; omega)) only [go_sem, ↓reduceIte, Nat.reduceEqDiff, Nat.reduceAdd, Nat.reduceMul, Nat.reduceSub, Int.reduceToNat, Nat.reduceBEq, List.size_toArray, List.length_cons, List.length_nil, Bool.false_and, Bool.true_and, Bool.or_false, Bool.false_or, Bool.and_false, Bool.and_true, s15], by simp (disch := first | (simp only [go_sem, Bool.and_self, eq_self]; done) | omega | (simp only [List.length_cons, List.length_nil]; omega)) only [go_sem, ↓reduceIte, Nat.reduceEqDiff, Nat.reduceAdd, Nat.reduceMul, Nat.reduceSub, Int.reduceToNat, Nat.reduceBEq, List.size_toArray, List.length_cons, List.length_nil, Bool.false_and, Bool.true_and, Bool.or_false, Bool.false_or, Bool.and_false, Bool.and_true, s13], by simp (disch := first | (simp only [go_sem, Bool.and_self, eq_self]; done) | omega | (simp only [List.length_cons, List.length_nil]; omega)) only [go_sem, ↓reduceIte, Nat.reduceEqDiff, Nat.reduceAdd, Nat.reduceMul, Nat.reduceSub, Int.reduceToNat, Nat.reduceBEq, List.size_toArray, List.length_cons, List.length_nil, Bool.false_and, Bool.true_and, Bool.or_false, Bool.false_or, Bool.and_false, Bool.and_true, s14], v, w', flat, by simp (disch := first | (simp only [go_sem, Bool.and_self, eq_self]; done) | omega | (simp only [List.length_cons, List.length_nil]; omega)) only [go_sem, ↓reduceIte, Nat.reduceEqDiff, Nat.reduceAdd, Nat.reduceMul, Nat.reduceSub, Int.reduceToNat, Nat.reduceBEq, List.size_toArray, List.length_cons, List.length_nil, Bool.false_and, Bool.true_and, Bool.or_false, Bool.false_or, Bool.and_false, Bool.and_true, s5], by simp (disch := first | (simp only [go_sem, Bool.and_self, eq_self]; done) | omega | (simp only [List.length_cons, List.length_nil]; omega)) only [go_sem, ↓reduceIte, Nat.reduceEqDiff, Nat.reduceAdd, Nat.reduceMul, Nat.reduceSub, Int.reduceToNat, Nat.reduceBEq, List.size_toArray, List.length_cons, List.length_nil, Bool.false_and, Bool.true_and, Bool.or_false, Bool.false_or, Bool.and_false, Bool.and_true], ?_, fun _ => ?_⟩
    · rw [mrgO, if_pos hm, mrgL_succ]; exact m2
    · rw [mrgO, if_pos hm]; exact List.length_pos_of_mem hm
  · obtain ⟨v', H, c, happ1, m2, hHn⟩ := mG.row (P := Try.prog) (nth a i) 27 isz27 ibytes27 izero27 (by omega)
    obtain ⟨w', H', happ, m3⟩ := m2.num (P := Try.prog) ((mrgO a i).length : Int) 3 isz3 ibytes3 izero3 (by omega)
    have hfr := findR_not hm
    have hid := idxR_not hm
    rw [← hfl] at happ
    rw [alloc_nx] at happ1
    simp (disch := first | (simp only [go_sem, Bool.and_self, eq_self]; done) | omega | (simp only [List.length_cons, List.length_nil]; omega)) only [go_sem, ↓reduceIte, Nat.reduceEqDiff, Nat.reduceAdd, Nat.reduceMul, Nat.reduceSub, Int.reduceToNat, Nat.reduceBEq, List.size_toArray, List.length_cons, List.length_nil, Bool.false_and, Bool.true_and, Bool.or_false, Bool.false_or, Bool.and_false, Bool.and_true, s13, s14, s15, s5, s6, hlt, hG, hG1, es1, es4, kk2, kk3, hfr, hlenv, bsD_sl, happ1, bsD_int, happ, (by decide : (-1 : Int) < 0)]
    rw [ForK_normal]
    refine ⟨hlt, by simp (disch := first | (simp only [go_sem, Bool.and_self, eq_self]; done) | omega | (simp only [List.length_cons, List.length_nil]; omega)) only [go_sem, ↓reduceIte, Nat.reduceEqDiff, Nat.reduceAdd, Nat.reduceMul, Nat.reduceSub, Int.reduceToNat, Nat.reduceBEq, List.size_toArray, List.length_cons, List.length_nil, Bool.false_and, Bool.true_and, Bool.or_false, Bool.false_or, Bool.and_false, Bool.and_true, s15], by simp (disch := first | (simp only [go_sem, Bool.and_self, eq_self]; done) | omega | (simp only [List.length_cons, List.length_nil]; omega)) only [go_sem, ↓reduceIte, Nat.reduceEqDiff, Nat.reduceAdd, Nat.reduceMul, Nat.reduceSub, Int.reduceToNat, Nat.reduceBEq, List.size_toArray, List.length_cons, List.length_nil, Bool.false_and, Bool.true_and, Bool.or_false, Bool.false_or, Bool.and_false, Bool.and_true, s13], by simp (disch := first | (simp only [go_sem, Bool.and_self, eq_self]; done) | omega | (simp only [List.length_cons, List.length_nil]; omega)) only [go_sem, ↓reduceIte, Nat.reduceEqDiff, Nat.reduceAdd, Nat.reduceMul, Nat.reduceSub, Int.reduceToNat, Nat.reduceBEq, List.size_toArray, List.length_cons, List.length_nil, Bool.false_and, Bool.true_and, Bool.or_false, Bool.false_or, Bool.and_false, Bool.and_true, s14], v', w', flat ++ [c], by simp (disch := first | (simp only [go_sem, Bool.and_self, eq_self]; done) | omega | (simp only [List.length_cons, List.length_nil]; omega)) only [go_sem, ↓reduceIte, Nat.reduceEqDiff, Nat.reduceAdd, Nat.reduceMul, Nat.reduceSub, Int.reduceToNat, Nat.reduceBEq, List.size_toArray, List.length_cons, List.length_nil, Bool.false_and, Bool.true_and, Bool.or_false, Bool.false_or, Bool.and_false, Bool.and_true], by simp (disch := first | (simp only [go_sem, Bool.and_self, eq_self]; done) | omega | (simp only [List.length_cons, List.length_nil]; omega)) only [go_sem, ↓reduceIte, Nat.reduceEqDiff, Nat.reduceAdd, Nat.reduceMul, Nat.reduceSub, Int.reduceToNat, Nat.reduceBEq, List.size_toArray, List.length_cons, List.length_nil, Bool.false_and, Bool.true_and, Bool.or_false, Bool.false_or, Bool.and_false, Bool.and_true], ?_, fun _ => ?_⟩
    · rw [mrgO, if_neg hm, mrgL_succ, hid]; exact m3
    · rw [mrgO, if_neg hm, List.length_append]; simp
end Go.Proofs.Ytkjdnnedncomgaa

set_option linter.unusedVariables false
set_option linter.unusedSimpArgs false
set_option maxRecDepth 10000
namespace Go.Proofs.Ytkjdnnedncomgaa
open Go Go.Am

variable {h h' : Hp} {K : AV → Hp → Prop}

theorem tableM_id {a : List (List Int)} (h12 : a.length ≤ 8) (hr : ∀ i, i < a.length → (nth a i).length ≤ 8) : tableM a = a := by
  refine List.ext_getElem? fun i => ?_
  by_cases hi : i < a.length
  · have hr' := hr i hi
    rw [tableM, List.getElem?_map, List.getElem?_range (by omega), nth_get hi]
    show some (tableRow a i) = _
    rw [tableRow, List.take_of_length_le (by omega)]
  · rw [List.getElem?_eq_none (by simp [tableM]; omega), List.getElem?_eq_none (by omega)]

/-- What Plan returned: nothing, or rows that are alive. -/
def PV (h : Hp) (pv : AV) (ds : List AV) : Prop := (pv = LLI [] ∧ ds = []) ∨ ∃ ip, pv = .sl ip 0 ds.length 1 ∧ ip < h.nx ∧ h.bl ip = some (.cells false true ds)
theorem PV.cells {pv : AV} {ds : List AV} (p : PV h pv ds) (hn : h.nx ≤ h'.nx) (hb : ∀ i, i < h.nx → h'.bl i = h.bl i) : cellsOf h' none pv = some ds ∧ lenA pv = some ds.length := by
  rcases p with ⟨rfl, rfl⟩ | ⟨ip, rfl, h1, h2⟩
  · exact ⟨rfl, rfl⟩
  · refine ⟨?_, rfl⟩
    have : rd h' none ip = some ds := by simp [rd, lims, hb ip h1, h2]
    simp [cellsOf, this]
theorem rowsW_cell {B M : Nat} {cs : List AV} (r : RowsW B M h cs) : cs.all AV.isCell = true := List.all_eq_true.2 fun c hc => by
  rcases r c hc with rfl | ⟨q, m, rfl, _⟩ <;> rfl
theorem import_merge (rows : List (List Int)) (nums : List Int) (h : Hp) : ∃ om il flat h', importR h (.tup [.own (.fresh 1 (frR rows)), .own (.fresh 1 (nums.flatMap (e1 I))), I 0]) = (.tup [.sl om 0 rows.length 1, .sl il 0 nums.length 1, I 0], h') ∧ h.nx ≤ h'.nx ∧ (∀ i, i < h.nx → h'.bl i = h.bl i) ∧ RowsLv h.nx h' om flat rows ∧ il < h'.nx ∧ h'.bl il = some (.cells false true (nums.flatMap (e1 I))) := by
  obtain ⟨om, flat, h1, k1, k2, k3, k4⟩ := importV_at rows h
  refine ⟨om, h1.nx, flat, h1.alloc (.cells false true (nums.flatMap (e1 I))), ?_, by show _ ≤ h1.nx + 1; omega, fun i hi => ?_, k4.keep (by show _ ≤ h1.nx + 1; omega) fun i _ hi => by simp [Hp.alloc, show ¬ i = h1.nx by omega], by show _ < h1.nx + 1; omega, by simp [Hp.alloc]⟩
  · have e2 : importV h1 (.own (.fresh 1 (nums.flatMap (e1 I)))) = (.sl h1.nx 0 nums.length 1, h1.alloc (.cells false true (nums.flatMap (e1 I)))) := importN_own (h := h1) (f := e1 I) (sz := 1) (k := 3) nums
    show ((AV.tup (importL h [.own (.fresh 1 (frR rows)), .own (.fresh 1 (nums.flatMap (e1 I))), I 0]).1, (importL h [.own (.fresh 1 (frR rows)), .own (.fresh 1 (nums.flatMap (e1 I))), I 0]).2) : AV × Hp) = _
    simp only [importL, k1, e2]
    rfl
  · rw [← k3 i hi]; simp [Hp.alloc, show ¬ i = h1.nx by omega]

set_option maxHeartbeats 2000000 in
theorem f10_con (acc : List (List Int)) (d : Int) (ha : okM acc) (hd : ok64 d) : Con Try.prog cfgL 10 [LLI acc, I d] (.bool true) := by
  have hpl := tameM_plan acc (most := 6) (by omega)
  have mk1 := fun h h' K => ConW_any (h := h) (h' := h') (K := K) (toL (by decide) (f11_con acc ha 6 (by omega))) rfl
  generalize tameM acc 6 = a at hpl mk1
  have f := Pl.of hpl
  have hk := f.keys
  have hlo := f.locks
  have okA := f.okA
  have hrow : ∀ i, i < a.length → (nth a i).length = (nth a 0).length := fun i hi => f.row i hi
  have htid : tableM a = a := tableM_id (by omega) fun i hi => by rw [hrow i hi]; omega
  have c19 := f19_con a okA
  rw [htid] at c19
  have mk19 := fun h h' K => ConW_any (h := h) (h' := h') (K := K) (toL (by decide) c19) rfl
  have hdb := modI_bounds d (n := 4) (by omega)
  have c12 : Con Try.prog cfg 12 [I d, I 4] (I (modI d 4)) := f12_con d 4 hd (by omega) (by omega)
  have mk3 := fun h h' K => ConW_num (h := h) (h' := h') (K := K) (toL (by decide) c12) rfl
  obtain ⟨dn, hdn⟩ : ∃ dn : Nat, 1 + modI d 4 = (dn : Int) := ⟨(1 + modI d 4).toNat, by omega⟩
  have hdn4 : 1 ≤ dn ∧ dn ≤ 4 := by omega
  have ht : taskB a dn = true := by rw [taskB, hpl, decide_eq_true (by omega)]; rfl
  have c29 := f29_L a okA hpl
  have j29 := fun h K => ConW_same (h := h) (K := K) c29 rfl
  have hmo := mrgO_len a a.length
  have hml := mrgL_len a a.length
  have hmr : ∀ x ∈ mrgO a a.length, x.length ≤ 1000 := fun x hx => by
    obtain ⟨j, hj, rfl⟩ := mrgO_mem hx
    rw [hrow j hj]; omega
  have hi1 : ∀ h : Hp, importR h (LLI a) = (LLI a, h) := fun _ => rfl
  -- what Plan answers, both times
  obtain ⟨pr, ev, c20, hall⟩ : ∃ (pr : AV) (ev : Int), Con Try.prog cfgL 20 [LLI a, I 4, I dn] pr ∧ pr.isScalar = false ∧ ((ev = 6 ∧ pr = .tup [LLI [], I 6]) ∨ (ev = 0 ∧ ∃ l, planF a dn 4 = some l ∧ pr = .tup [.own (.fresh 1 (frR (cutsOf a l))), I 0])) := by
    rcases f20_L a okA 4 dn ht (by omega) with ⟨l, h1, h2⟩ | ⟨h1, h2⟩
    · exact ⟨_, 0, h2, rfl, .inr ⟨rfl, l, h1, rfl⟩⟩
    · exact ⟨_, 6, h2, rfl, .inl ⟨rfl, rfl⟩⟩
  obtain ⟨hsc, hpr⟩ := hall
  have j20 := fun h K => ConW_same (h := h) (K := K) c20 hsc
  obtain ⟨pv, ds, h1, hip, hpv, hds, hdl⟩ : ∃ pv ds h1, importR Hp.empty pr = (.tup [pv, I ev], h1) ∧ PV h1 pv ds ∧ RowsW 0 h1.nx h1 ds ∧ ds.length ≤ 10 := by
    rcases hpr with ⟨rfl, rfl⟩ | ⟨rfl, l, hl, rfl⟩
    · exact ⟨LLI [], [], Hp.empty, rfl, .inl ⟨rfl, rfl⟩, fun c hc => (by cases hc), by simp⟩
    · obtain ⟨q1, q2, q3⟩ := plan_ok f hdn4 hl
      obtain ⟨o, flat, h1, e1, e2, e3, e4⟩ := importV_at (cutsOf a l) Hp.empty
      have hcl : (cutsOf a l).length = a.length := by simp [cutsOf]
      have hfl := e4.1.len
      refine ⟨.sl o 0 (cutsOf a l).length 1, flat, h1, ?_, .inr ⟨o, by rw [hfl], e4.2.2.1.2, e4.2.1⟩, e4.w fun x hx => ?_, by omega⟩
      · show ((AV.tup (importL Hp.empty [.own (.fresh 1 (frR (cutsOf a l))), I 0]).1, (importL Hp.empty [.own (.fresh 1 (frR (cutsOf a l))), I 0]).2) : AV × Hp) = _
        simp only [importL, e1]
        rfl
      · simp only [cutsOf, List.mem_map] at hx
        obtain ⟨k, _, rfl⟩ := hx
        rw [List.length_map, q1]; omega
  obtain ⟨om, il, fm, h2, him, hn2, hb2, hin, hil, hbil⟩ := import_merge (mrgO a a.length) (mrgL a a.length) h1
  have hfm := hin.1.len
  refine Con_intro Try.func10 rfl okL10 (Nat.le_of_ble_eq_true rfl) rfl ?_
  simp only [Try.f10, Option.getD_some, initSt2]
  simp (disch := first | (simp only [go_sem, Bool.and_self, eq_self]; done) | omega | (simp only [List.length_cons, List.length_nil]; omega)) only [go_sem, ↓reduceIte, Nat.reduceEqDiff, Nat.reduceAdd, Nat.reduceMul, Nat.reduceSub, Int.reduceToNat, Nat.reduceBEq, List.size_toArray, List.length_cons, List.length_nil, Bool.false_and, Bool.true_and, Bool.or_false, Bool.false_or, Bool.and_false, Bool.and_true, mk1, mk19, hi1, mk3, hdn, j20, hip, j29, him, ↓stopZ 6 false]
  refine WPz_go (fun st g => (st 1 = I dn ∧ st 4 = .bool false ∧ st 5 = LLI a ∧ st 6 = LLI a ∧ st 8 = I ev ∧ st 11 = I 0 ∧ st 7 = pv ∧ st 9 = .sl om 0 fm.length 1 ∧ st 10 = .sl il 0 a.length 1) ∧ g = h2) ⟨⟨by simp [upd, Hp.put, Hp.alloc], by simp [upd, Hp.put, Hp.alloc], by simp [upd, Hp.put, Hp.alloc], by simp [upd, Hp.put, Hp.alloc], by simp [upd, Hp.put, Hp.alloc], by simp [upd, Hp.put, Hp.alloc], by simp (disch := first | (simp only [go_sem, Bool.and_self, eq_self]; done) | omega | (simp only [List.length_cons, List.length_nil]; omega)) only [go_sem, ↓reduceIte, Nat.reduceEqDiff, Nat.reduceAdd, Nat.reduceMul, Nat.reduceSub, Int.reduceToNat, Nat.reduceBEq, List.size_toArray, List.length_cons, List.length_nil, Bool.false_and, Bool.true_and, Bool.or_false, Bool.false_or, Bool.and_false, Bool.and_true], by simp (disch := first | (simp only [go_sem, Bool.and_self, eq_self]; done) | omega | (simp only [List.length_cons, List.length_nil]; omega)) only [go_sem, ↓reduceIte, Nat.reduceEqDiff, Nat.reduceAdd, Nat.reduceMul, Nat.reduceSub, Int.reduceToNat, Nat.reduceBEq, List.size_toArray, List.length_cons, List.length_nil, Bool.false_and, Bool.true_and, Bool.or_false, Bool.false_or, Bool.and_false, Bool.and_true, hfm], by simp (disch := first | (simp only [go_sem, Bool.and_self, eq_self]; done) | omega | (simp only [List.length_cons, List.length_nil]; omega)) only [go_sem, ↓reduceIte, Nat.reduceEqDiff, Nat.reduceAdd, Nat.reduceMul, Nat.reduceSub, Int.reduceToNat, Nat.reduceBEq, List.size_toArray, List.length_cons, List.length_nil, Bool.false_and, Bool.true_and, Bool.or_false, Bool.false_or, Bool.and_false, Bool.and_true, hml]⟩, rfl⟩ ?_
  rintro st g ⟨⟨s1, s4, s5, s6, s8, s11, s7, s9, s10⟩, rfl⟩
  have hA0 : (g.alloc (.cells false true [.sl il 0 a.length 1])).bl g.nx = some (.cells false true [.sl il 0 a.length 1]) := by simp [Hp.alloc]
  have lo0 : ∀ i, i < g.nx → (g.alloc (.cells false true [.sl il 0 a.length 1])).bl i = g.bl i := fun i hi => by simp [Hp.alloc, show ¬ i = g.nx by omega]
  obtain ⟨x1, x2⟩ := hpv.cells (h' := g.alloc (.cells false true [.sl il 0 a.length 1])) (by show _ ≤ g.nx + 1; omega) fun i hi => by rw [lo0 i (by omega)]; exact hb2 i hi
  have ap1 := app_cells (P := Try.prog) 27 isz27 ibytes27 izero27 hA0 (n := 1) rfl x1 x2 rfl (rowsW_cell hds) (by omega)
  generalize hG1 : ((g.alloc (.cells false true [.sl il 0 a.length 1])).put g.nx none).alloc (.cells false true ([.sl il 0 a.length 1] ++ ds)) = G1 at ap1
  have hG1n : G1.nx = g.nx + 2 := by rw [← hG1]; rfl
  have hA1 : G1.bl (g.nx + 1) = some (.cells false true ([.sl il 0 a.length 1] ++ ds)) := by rw [← hG1]; simp [Hp.alloc, Hp.put]
  have lo1 : ∀ i, i < g.nx → G1.bl i = g.bl i := fun i hi => by rw [← hG1]; simp [Hp.alloc, Hp.put, show ¬ i = g.nx + 1 by omega, show ¬ i = g.nx by omega]
  have x3 : cellsOf G1 none (.sl om 0 fm.length 1) = some fm := by
    have : rd G1 none om = some fm := by simp [rd, lims, lo1 om hin.2.2.1.2, hin.2.1]
    simp [cellsOf, this]
  have hwm := hin.w hmr
  have ap2 := app_cells (P := Try.prog) 27 isz27 ibytes27 izero27 hA1 (n := 1 + ds.length) (by simp; omega) x3 rfl rfl (rowsW_cell hwm) (by omega)
  rw [hG1n] at ap2
  generalize hG2 : (G1.put (g.nx + 1) none).alloc (.cells false true ([.sl il 0 a.length 1] ++ ds ++ fm)) = G2 at ap2
  obtain ⟨A, hA⟩ : ∃ A, A = g.nx + 2 := ⟨_, rfl⟩
  obtain ⟨N, hN⟩ : ∃ N, N = 1 + ds.length + fm.length := ⟨_, rfl⟩
  obtain ⟨cs, hcs⟩ : ∃ cs, cs = [.sl il 0 a.length 1] ++ ds ++ fm := ⟨_, rfl⟩
  have hcl : cs.length = N := by rw [hcs, hN]; simp; omega
  have hN1000 : N ≤ 1000 := by omega
  have lo2 : ∀ i, i < g.nx → G2.bl i = g.bl i := fun i hi => by rw [← lo1 i hi, ← hG2]; simp [Hp.alloc, Hp.put, hG1n, show ¬ i = g.nx + 2 by omega, show ¬ i = g.nx + 1 by omega]
  have hbA : G2.bl A = some (.cells false true cs) := by rw [← hG2, hcs, hA, alloc_bl, put_nx, hG1n, if_pos rfl]
  have hAn : A < G2.nx := by rw [← hG2]; show _ < G1.nx + 1; omega
  have hW : RowsW 0 A G2 cs := by
    rw [hcs]
    refine ((RowsW.append (RowsW.append (fun c hc => ?_) ((hds.keep (h' := g) fun i _ hi => hb2 i hi).wide hn2)) (hwm.low (Nat.zero_le _))).keep fun i _ hi => lo2 i hi).wide (by omega)
    rw [List.mem_singleton.1 hc]
    exact .inr ⟨il, a.length, rfl, ⟨Nat.zero_le _, hil⟩, by omega, _, hbil, by rw [flatMap_len (f := e1 I) (sz := 1), hml]; omega⟩
  rw [← hA, ← hN] at ap2
  have hg1 : (g.alloc (.cells false true [.sl il 0 a.length 1])).nx = g.nx + 1 := rfl
  rw [hg1] at ap1
  simp (disch := first | (simp only [go_sem, Bool.and_self, eq_self]; done) | omega | (simp only [List.length_cons, List.length_nil]; omega)) only [go_sem, ↓reduceIte, Nat.reduceEqDiff, Nat.reduceAdd, Nat.reduceMul, Nat.reduceSub, Int.reduceToNat, Nat.reduceBEq, List.size_toArray, List.length_cons, List.length_nil, Bool.false_and, Bool.true_and, Bool.or_false, Bool.false_or, Bool.and_false, Bool.and_true, s1, s4, s5, s6, s8, s11, s7, s9, s10, bsD_sl, ap1, ap2]
  refine WP_cut (fun st h => st 1 = I dn ∧ st 4 = .bool false ∧ st 5 = LLI a ∧ st 6 = LLI a ∧ st 8 = I ev ∧ st 11 = I 0 ∧ st 12 = .sl A 0 N 1) ?_ ?_
  · refine WP_for 13 N (fun i st h => st 1 = I dn ∧ st 4 = .bool false ∧ st 5 = LLI a ∧ st 6 = LLI a ∧ st 8 = I ev ∧ st 11 = I 0 ∧ st 12 = .sl A 0 N 1 ∧ h.bl A = some (.cells false true cs) ∧ RowsW 0 A h cs) (by simp (disch := first | (simp only [go_sem, Bool.and_self, eq_self]; done) | omega | (simp only [List.length_cons, List.length_nil]; omega)) only [go_sem, ↓reduceIte, Nat.reduceEqDiff, Nat.reduceAdd, Nat.reduceMul, Nat.reduceSub, Int.reduceToNat, Nat.reduceBEq, List.size_toArray, List.length_cons, List.length_nil, Bool.false_and, Bool.true_and, Bool.or_false, Bool.false_or, Bool.and_false, Bool.and_true]) ⟨by simp [upd, Hp.put, Hp.alloc, s1, s4, s5, s6, s8, s11], by simp [upd, Hp.put, Hp.alloc, s1, s4, s5, s6, s8, s11], by simp [upd, Hp.put, Hp.alloc, s1, s4, s5, s6, s8, s11], by simp [upd, Hp.put, Hp.alloc, s1, s4, s5, s6, s8, s11], by simp [upd, Hp.put, Hp.alloc, s1, s4, s5, s6, s8, s11], by simp [upd, Hp.put, Hp.alloc, s1, s4, s5, s6, s8, s11], by simp [upd, Hp.put, Hp.alloc, s1, s4, s5, s6, s8, s11], hbA, hW⟩ ?_
    clear s1 s4 s5 s6 s7 s8 s9 s10 s11 hbA hW ap1 ap2 hG1 hG2
    rintro i st h hi s13 ⟨s1, s4, s5, s6, s8, s11, s12, hbA, hW⟩
    by_cases hlt : i < N
    case neg =>
      simp (disch := first | (simp only [go_sem, Bool.and_self, eq_self]; done) | omega | (simp only [List.length_cons, List.length_nil]; omega)) only [go_sem, ↓reduceIte, Nat.reduceEqDiff, Nat.reduceAdd, Nat.reduceMul, Nat.reduceSub, Int.reduceToNat, Nat.reduceBEq, List.size_toArray, List.length_cons, List.length_nil, Bool.false_and, Bool.true_and, Bool.or_false, Bool.false_or, Bool.and_false, Bool.and_true, s1, s4, s5, s6, s8, s11, s12, s13, hlt]
    have hlt' : (i : Int) < N := by omega
    have hi1 : i < cs.length := by omega
    obtain ⟨c, hc⟩ : ∃ c, cs[i]? = some c := ⟨_, List.getElem?_eq_getElem hi1⟩
    simp (disch := first | (simp only [go_sem, Bool.and_self, eq_self]; done) | omega | (simp only [List.length_cons, List.length_nil]; omega)) only [go_sem, ↓reduceIte, Nat.reduceEqDiff, Nat.reduceAdd, Nat.reduceMul, Nat.reduceSub, Int.reduceToNat, Nat.reduceBEq, List.size_toArray, List.length_cons, List.length_nil, Bool.false_and, Bool.true_and, Bool.or_false, Bool.false_or, Bool.and_false, Bool.and_true, s1, s4, s5, s6, s8, s11, s12, s13, hlt, hlt']
    refine WP_cut (fun st h => st 1 = I dn ∧ st 4 = .bool false ∧ st 5 = LLI a ∧ st 6 = LLI a ∧ st 8 = I ev ∧ st 11 = I 0 ∧ st 12 = .sl A 0 N 1 ∧ st 13 = I i ∧ h.bl A = some (.cells false true cs) ∧ RowsW 0 A h cs) ?_ ?_
    · rcases hW c (List.mem_of_getElem? hc) with rfl | ⟨q, mm, rfl, hq, hmm, fl0, hbq, hfl0⟩
      · refine WP_for 14 0 (fun j st g => st 1 = I dn ∧ st 4 = .bool false ∧ st 5 = LLI a ∧ st 6 = LLI a ∧ st 8 = I ev ∧ st 11 = I 0 ∧ st 12 = .sl A 0 N 1 ∧ st 13 = I i ∧ g = h) (by simp (disch := first | (simp only [go_sem, Bool.and_self, eq_self]; done) | omega | (simp only [List.length_cons, List.length_nil]; omega)) only [go_sem, ↓reduceIte, Nat.reduceEqDiff, Nat.reduceAdd, Nat.reduceMul, Nat.reduceSub, Int.reduceToNat, Nat.reduceBEq, List.size_toArray, List.length_cons, List.length_nil, Bool.false_and, Bool.true_and, Bool.or_false, Bool.false_or, Bool.and_false, Bool.and_true]) ⟨by simp [upd, Hp.put, Hp.alloc, s1, s4, s5, s6, s8, s11, s12], by simp [upd, Hp.put, Hp.alloc, s1, s4, s5, s6, s8, s11, s12], by simp [upd, Hp.put, Hp.alloc, s1, s4, s5, s6, s8, s11, s12], by simp [upd, Hp.put, Hp.alloc, s1, s4, s5, s6, s8, s11, s12], by simp [upd, Hp.put, Hp.alloc, s1, s4, s5, s6, s8, s11, s12], by simp [upd, Hp.put, Hp.alloc, s1, s4, s5, s6, s8, s11, s12], by simp [upd, Hp.put, Hp.alloc, s1, s4, s5, s6, s8, s11, s12], by simp [upd, Hp.put, Hp.alloc, s13], rfl⟩ ?_
        rintro j st g hj s14 ⟨s1, s4, s5, s6, s8, s11, s12, s13, rfl⟩
        have h00 : ¬ (j : Int) < 0 := by omega
        simp (disch := first | (simp only [go_sem, Bool.and_self, eq_self]; done) | omega | (simp only [List.length_cons, List.length_nil]; omega)) only [go_sem, ↓reduceIte, Nat.reduceEqDiff, Nat.reduceAdd, Nat.reduceMul, Nat.reduceSub, Int.reduceToNat, Nat.reduceBEq, List.size_toArray, List.length_cons, List.length_nil, Bool.false_and, Bool.true_and, Bool.or_false, Bool.false_or, Bool.and_false, Bool.and_true, s1, s4, s5, s6, s8, s11, s12, s13, s14, hbA, hlt, hlt', hc, h00]
        exact hW
      · refine WP_for 14 mm (fun j st h => st 1 = I dn ∧ st 4 = .bool false ∧ st 5 = LLI a ∧ st 6 = LLI a ∧ st 8 = I ev ∧ st 11 = I 0 ∧ st 12 = .sl A 0 N 1 ∧ st 13 = I i ∧ h.bl A = some (.cells false true cs) ∧ RowsW 0 A h cs) (by simp (disch := first | (simp only [go_sem, Bool.and_self, eq_self]; done) | omega | (simp only [List.length_cons, List.length_nil]; omega)) only [go_sem, ↓reduceIte, Nat.reduceEqDiff, Nat.reduceAdd, Nat.reduceMul, Nat.reduceSub, Int.reduceToNat, Nat.reduceBEq, List.size_toArray, List.length_cons, List.length_nil, Bool.false_and, Bool.true_and, Bool.or_false, Bool.false_or, Bool.and_false, Bool.and_true]) ⟨by simp [upd, Hp.put, Hp.alloc, s1, s4, s5, s6, s8, s11, s12], by simp [upd, Hp.put, Hp.alloc, s1, s4, s5, s6, s8, s11, s12], by simp [upd, Hp.put, Hp.alloc, s1, s4, s5, s6, s8, s11, s12], by simp [upd, Hp.put, Hp.alloc, s1, s4, s5, s6, s8, s11, s12], by simp [upd, Hp.put, Hp.alloc, s1, s4, s5, s6, s8, s11, s12], by simp [upd, Hp.put, Hp.alloc, s1, s4, s5, s6, s8, s11, s12], by simp [upd, Hp.put, Hp.alloc, s1, s4, s5, s6, s8, s11, s12], by simp [upd, Hp.put, Hp.alloc, s13], hbA, hW⟩ ?_
        clear hbA hW hbq s1 s4 s5 s6 s8 s11 s12 s13
        rintro j st h hj s14 ⟨s1, s4, s5, s6, s8, s11, s12, s13, hbA, hW⟩
        have hq' : ∃ fl, h.bl q = some (.cells false true fl) ∧ fl.length = mm := by
          rcases hW _ (List.mem_of_getElem? hc) with e | ⟨q2, m2, e, _, _, fl, k3, k4⟩
          · cases e
          · cases e; exact ⟨fl, k3, k4⟩
        obtain ⟨fl, hbq, hfl⟩ := hq'
        by_cases hjt : j < mm
        case neg =>
          simp (disch := first | (simp only [go_sem, Bool.and_self, eq_self]; done) | omega | (simp only [List.length_cons, List.length_nil]; omega)) only [go_sem, ↓reduceIte, Nat.reduceEqDiff, Nat.reduceAdd, Nat.reduceMul, Nat.reduceSub, Int.reduceToNat, Nat.reduceBEq, List.size_toArray, List.length_cons, List.length_nil, Bool.false_and, Bool.true_and, Bool.or_false, Bool.false_or, Bool.and_false, Bool.and_true, s1, s4, s5, s6, s8, s11, s12, s13, s14, hbA, hlt, hlt', hc, hjt]
          exact hW
        have hjt' : (j : Int) < mm := by omega
        have hjf : j < fl.length := by omega
        have hso := fun g : Hp => storeC_one (h := g) q j true fl (I (-1)) rfl hjf
        have hqA : ¬ A = q := by omega
        simp (disch := first | (simp only [go_sem, Bool.and_self, eq_self]; done) | omega | (simp only [List.length_cons, List.length_nil]; omega)) only [go_sem, ↓reduceIte, Nat.reduceEqDiff, Nat.reduceAdd, Nat.reduceMul, Nat.reduceSub, Int.reduceToNat, Nat.reduceBEq, List.size_toArray, List.length_cons, List.length_nil, Bool.false_and, Bool.true_and, Bool.or_false, Bool.false_or, Bool.and_false, Bool.and_true, s1, s4, s5, s6, s8, s11, s12, s13, s14, hbA, hlt, hlt', hc, hjt, hjt', hjf, hbq, hso]
        rw [ForK_normal]
        exact ⟨hjt, (by simp (disch := first | (simp only [go_sem, Bool.and_self, eq_self]; done) | omega | (simp only [List.length_cons, List.length_nil]; omega)) only [go_sem, ↓reduceIte, Nat.reduceEqDiff, Nat.reduceAdd, Nat.reduceMul, Nat.reduceSub, Int.reduceToNat, Nat.reduceBEq, List.size_toArray, List.length_cons, List.length_nil, Bool.false_and, Bool.true_and, Bool.or_false, Bool.false_or, Bool.and_false, Bool.and_true, s14]), by simp [upd, Hp.put, Hp.alloc, s1], by simp [upd, Hp.put, Hp.alloc, s4], by simp [upd, Hp.put, Hp.alloc, s5], by simp [upd, Hp.put, Hp.alloc, s6], by simp [upd, Hp.put, Hp.alloc, s8], by simp [upd, Hp.put, Hp.alloc, s11], by simp [upd, Hp.put, Hp.alloc, s12], by simp [upd, Hp.put, Hp.alloc, s13], by rw [put_bl, if_neg hqA]; exact hbA, hW.put hbq (by rw [List.length_set])⟩
    clear hbA hW s1 s4 s5 s6 s8 s11 s12 s13
    rintro st h ⟨s1, s4, s5, s6, s8, s11, s12, s13, hbA, hW⟩
    simp (disch := first | (simp only [go_sem, Bool.and_self, eq_self]; done) | omega | (simp only [List.length_cons, List.length_nil]; omega)) only [go_sem, ↓reduceIte, Nat.reduceEqDiff, Nat.reduceAdd, Nat.reduceMul, Nat.reduceSub, Int.reduceToNat, Nat.reduceBEq, List.size_toArray, List.length_cons, List.length_nil, Bool.false_and, Bool.true_and, Bool.or_false, Bool.false_or, Bool.and_false, Bool.and_true, s1, s4, s5, s6, s8, s11, s12, s13]
    rw [ForK_normal]
    exact ⟨hlt, (by simp (disch := first | (simp only [go_sem, Bool.and_self, eq_self]; done) | omega | (simp only [List.length_cons, List.length_nil]; omega)) only [go_sem, ↓reduceIte, Nat.reduceEqDiff, Nat.reduceAdd, Nat.reduceMul, Nat.reduceSub, Int.reduceToNat, Nat.reduceBEq, List.size_toArray, List.length_cons, List.length_nil, Bool.false_and, Bool.true_and, Bool.or_false, Bool.false_or, Bool.and_false, Bool.and_true, s13]), by simp [upd, Hp.put, Hp.alloc, s1], by simp [upd, Hp.put, Hp.alloc, s4], by simp [upd, Hp.put, Hp.alloc, s5], by simp [upd, Hp.put, Hp.alloc, s6], by simp [upd, Hp.put, Hp.alloc, s8], by simp [upd, Hp.put, Hp.alloc, s11], by simp [upd, Hp.put, Hp.alloc, s12], hbA, hW⟩
  clear s1 s4 s5 s6 s7 s8 s9 s10 s11 hbA hW ap1 ap2 hG1 hG2
  rintro st h ⟨s1, s4, s5, s6, s8, s11, s12⟩
  have m31 := fun h h' K => ConW_num (h := h) (h' := h') (K := K) (toL (by decide) (f31_con a a okA)) rfl
  have mk17 := fun h h' K => ConW_num (h := h) (h' := h') (K := K) (toL (by decide) f17_con) rfl
  have n60 : ¬ (6 : Int) = 0 := by decide
  rcases hpr with ⟨rfl, rfl⟩ | ⟨rfl, l, hl, rfl⟩
  · have hi6 : ∀ h : Hp, importR h (.tup [LLI [], I 6]) = (.tup [LLI [], I 6], h) := fun _ => rfl
    simp (disch := first | (simp only [go_sem, Bool.and_self, eq_self]; done) | omega | (simp only [List.length_cons, List.length_nil]; omega)) only [go_sem, ↓reduceIte, Nat.reduceEqDiff, Nat.reduceAdd, Nat.reduceMul, Nat.reduceSub, Int.reduceToNat, Nat.reduceBEq, List.size_toArray, List.length_cons, List.length_nil, Bool.false_and, Bool.true_and, Bool.or_false, Bool.false_or, Bool.and_false, Bool.and_true, s1, s4, s5, s6, s8, s11, s12, j20, hi6, m31, mk17, n60]
  · obtain ⟨q1, q2, q3⟩ := plan_ok f hdn4 hl
    have ft := cuts_fit f hdn4 (l := l) (by omega) q2
    have hwr := cuts_right f hdn4 (l := l) (by omega) q2 q3
    have hch := ft.cham
    have hs := ft.same
    have hcl : (cutsOf a l).length = a.length := hs
    have hc0 : (nth (cutsOf a l) 0).length = 4 := by
      have : nth (cutsOf a l) 0 = l.map fun x => nth x 0 := nth_map_range _ _ _ (by omega)
      rw [this, List.length_map, q1]
    have hcuts : areCutsB (cutsOf a l) a.length dn = true := by
      simp only [areCutsB, Bool.and_eq_true, decide_eq_true_eq]
      refine ⟨⟨⟨by omega, by omega⟩, by omega⟩, all_of_nth fun r hr => ?_⟩
      rw [decide_eq_true (by rw [ft.crow r (by omega)]), Bool.true_and]
      refine all_of_nth fun j hj => ?_
      have := ft.cut r j (by omega) (by rw [ft.crow r (by omega)] at hj; exact hj)
      simpa only [decide_eq_true_eq] using this
    have href : refCutsB (cutsOf a l) a.length dn = true := by
      have := hcuts
      have e : areCutsB (cutsOf a l) a.length dn = (decide (1 ≤ (dn : Int) ∧ (dn : Int) ≤ 4) && refCutsB (cutsOf a l) a.length dn) := by
        simp only [areCutsB, refCutsB, Bool.and_assoc]; rfl
      rw [e, Bool.and_eq_true] at this
      exact this.2
    have m6 := fun h h' K => ConW_num (h := h) (h' := h') (K := K) (toL (by decide) (f23_con (cutsOf a l) ft.okC a.length dn (by omega))) rfl
    have m7 := fun h h' K => ConW_any (h := h) (h' := h') (K := K) (toL (by decide) (f24_con ft)) rfl
    rw [href] at m6
    rw [hwr] at m7
    obtain ⟨o, flat, H, e1, e2, e3, e4⟩ := importV_at (cutsOf a l) h
    have hii : importR h (.tup [.own (.fresh 1 (frR (cutsOf a l))), I 0]) = (.tup [.sl o 0 (cutsOf a l).length 1, I 0], H) := by
      show ((AV.tup (importL h [.own (.fresh 1 (frR (cutsOf a l))), I 0]).1, (importL h [.own (.fresh 1 (frR (cutsOf a l))), I 0]).2) : AV × Hp) = _
      simp only [importL, e1]
      rfl
    have hrp : ∀ r ∈ cutsOf a l, 0 < r.length := fun x hx => by
      simp only [cutsOf, List.mem_map] at hx
      obtain ⟨k, _, rfl⟩ := hx
      rw [List.length_map, q1]; omega
    have hfl := e4.1.len
    obtain ⟨H2, z1, _⟩ := seal_live (v := .sl o 0 (cutsOf a l).length 1) (.inr ⟨o, by rw [hfl], e4.2.2.1.2, e4.2.1⟩) e4.1 hrp (fun x hx j off n s hj => by
      have : x = o := by simpa [rowIds] using hx
      exact (e4.2.2.2 j x off n s hj).2 this)
    have hi0 : ∀ h : Hp, importR h (LP []) = (LP [], h) := fun _ => rfl
    simp (disch := first | (simp only [go_sem, Bool.and_self, eq_self]; done) | omega | (simp only [List.length_cons, List.length_nil]; omega)) only [go_sem, ↓reduceIte, Nat.reduceEqDiff, Nat.reduceAdd, Nat.reduceMul, Nat.reduceSub, Int.reduceToNat, Nat.reduceBEq, List.size_toArray, List.length_cons, List.length_nil, Bool.false_and, Bool.true_and, Bool.or_false, Bool.false_or, Bool.and_false, Bool.and_true, s1, s4, s5, s6, s8, s11, s12, j20, hii, z1, m31, m6, m7, hi0, mk17, List.length_nil, Int.natCast_zero]
end Go.Proofs.Ytkjdnnedncomgaa
