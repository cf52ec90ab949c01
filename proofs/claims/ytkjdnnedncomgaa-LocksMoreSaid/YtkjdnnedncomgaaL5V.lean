/-
  Keys without repetition: the functions of slices that it takes, the program's Merge, the reference's.
-/
import Derived.Test.YtkjdnnedncomgaaL5S
import Derived.Test.YtkjdnnedncomgaaL5W
set_option linter.unusedVariables false
set_option linter.unusedSimpArgs false
set_option maxRecDepth 10000
namespace Go.Proofs.Ytkjdnnedncomgaa
open Go Go.Am

variable {h h' : Hp} {K : AV → Hp → Prop}

/-- slices.Equal. -/
theorem f45_con (xs ys : List Int) (hx : xs.length ≤ 9223372036854775807) : Con Try.prog cfg 45 [LI xs, LI ys] (.bool (decide (xs = ys))) := by
  refine Con_intro Try.func45 rfl ok45 (Nat.le_of_ble_eq_true rfl) rfl ?_
  simp only [Try.f45, Option.getD_some, initSt2]
  by_cases hl : xs.length = ys.length
  case neg =>
    have hne : ¬ xs = ys := fun h => hl (by rw [h])
    simp (disch := first | (simp only [go_sem, Bool.and_self, eq_self]; done) | omega | (simp only [List.length_cons, List.length_nil]; omega)) only [go_sem, ↓reduceIte, Nat.reduceEqDiff, Nat.reduceAdd, Nat.reduceMul, Nat.reduceSub, Int.reduceToNat, hl, decide_eq_false hne]
  simp (disch := first | (simp only [go_sem, Bool.and_self, eq_self]; done) | omega | (simp only [List.length_cons, List.length_nil]; omega)) only [go_sem, ↓reduceIte, Nat.reduceEqDiff, Nat.reduceAdd, Nat.reduceMul, Nat.reduceSub, Int.reduceToNat, hl]
  refine WP_for 13 xs.length (fun i st h => st 0 = LI xs ∧ st 1 = LI ys ∧ st 12 = I xs.length ∧ ∀ j, j < i → nth xs j = nth ys j) (by simp (disch := first | (simp only [go_sem, Bool.and_self, eq_self]; done) | omega | (simp only [List.length_cons, List.length_nil]; omega)) only [go_sem, ↓reduceIte, Nat.reduceEqDiff, Nat.reduceAdd, Nat.reduceMul, Nat.reduceSub, Int.reduceToNat]) ⟨by simp (disch := first | (simp only [go_sem, Bool.and_self, eq_self]; done) | omega | (simp only [List.length_cons, List.length_nil]; omega)) only [go_sem, ↓reduceIte, Nat.reduceEqDiff, Nat.reduceAdd, Nat.reduceMul, Nat.reduceSub, Int.reduceToNat], by simp (disch := first | (simp only [go_sem, Bool.and_self, eq_self]; done) | omega | (simp only [List.length_cons, List.length_nil]; omega)) only [go_sem, ↓reduceIte, Nat.reduceEqDiff, Nat.reduceAdd, Nat.reduceMul, Nat.reduceSub, Int.reduceToNat], by simp (disch := first | (simp only [go_sem, Bool.and_self, eq_self]; done) | omega | (simp only [List.length_cons, List.length_nil]; omega)) only [go_sem, ↓reduceIte, Nat.reduceEqDiff, Nat.reduceAdd, Nat.reduceMul, Nat.reduceSub, Int.reduceToNat, hl], by omega⟩ ?_
  rintro i st h hi s13 ⟨s0, s1, s12, heq⟩
  by_cases hlt : i < xs.length
  case neg =>
    have : xs = ys := list_ext_nth hl fun j hj => heq j (by omega)
    simp (disch := first | (simp only [go_sem, Bool.and_self, eq_self]; done) | omega | (simp only [List.length_cons, List.length_nil]; omega)) only [go_sem, ↓reduceIte, Nat.reduceEqDiff, Nat.reduceAdd, Nat.reduceMul, Nat.reduceSub, Int.reduceToNat, s0, s1, s12, s13, hlt, decide_eq_true this]
  have hlt2 : i < ys.length := by omega
  by_cases he : nth xs i = nth ys i
  case neg =>
    have : ¬ xs = ys := fun h => he (by rw [h])
    simp (disch := first | (simp only [go_sem, Bool.and_self, eq_self]; done) | omega | (simp only [List.length_cons, List.length_nil]; omega)) only [go_sem, ↓reduceIte, Nat.reduceEqDiff, Nat.reduceAdd, Nat.reduceMul, Nat.reduceSub, Int.reduceToNat, s0, s1, s12, s13, hlt, hlt2, he, decide_eq_false this]
  simp (disch := first | (simp only [go_sem, Bool.and_self, eq_self]; done) | omega | (simp only [List.length_cons, List.length_nil]; omega)) only [go_sem, ↓reduceIte, Nat.reduceEqDiff, Nat.reduceAdd, Nat.reduceMul, Nat.reduceSub, Int.reduceToNat, s0, s1, s12, s13, hlt, hlt2, he]
  rw [ForK_normal]
  refine ⟨hlt, by simp (disch := first | (simp only [go_sem, Bool.and_self, eq_self]; done) | omega | (simp only [List.length_cons, List.length_nil]; omega)) only [go_sem, ↓reduceIte, Nat.reduceEqDiff, Nat.reduceAdd, Nat.reduceMul, Nat.reduceSub, Int.reduceToNat, s13], by simp (disch := first | (simp only [go_sem, Bool.and_self, eq_self]; done) | omega | (simp only [List.length_cons, List.length_nil]; omega)) only [go_sem, ↓reduceIte, Nat.reduceEqDiff, Nat.reduceAdd, Nat.reduceMul, Nat.reduceSub, Int.reduceToNat, s0], by simp (disch := first | (simp only [go_sem, Bool.and_self, eq_self]; done) | omega | (simp only [List.length_cons, List.length_nil]; omega)) only [go_sem, ↓reduceIte, Nat.reduceEqDiff, Nat.reduceAdd, Nat.reduceMul, Nat.reduceSub, Int.reduceToNat, s1], by simp (disch := first | (simp only [go_sem, Bool.and_self, eq_self]; done) | omega | (simp only [List.length_cons, List.length_nil]; omega)) only [go_sem, ↓reduceIte, Nat.reduceEqDiff, Nat.reduceAdd, Nat.reduceMul, Nat.reduceSub, Int.reduceToNat, s12], fun j hj => ?_⟩
  rcases Nat.lt_or_ge j i with h | h
  · exact heq j h
  · rwa [show j = i by omega]
theorem k45 (xs ys : List Int) (hx : xs.length ≤ 9223372036854775807) : ConW Try.prog cfg 45 h (some ([LI xs, LI ys], h')) K = K (.bool (decide (xs = ys))) h := ConW_num (f45_con xs ys hx) rfl

/-- The reference's own 'same', for lists of one length. -/
theorem f47_con (xs ys : List Int) (hx : xs.length ≤ 9223372036854775807) (hl : xs.length = ys.length) : Con Try.prog cfg 47 [LI xs, LI ys] (.bool (decide (xs = ys))) := by
  refine Con_intro Try.func47 rfl ok47 (Nat.le_of_ble_eq_true rfl) rfl ?_
  simp only [Try.f47, Option.getD_some, initSt2]
  simp (disch := first | (simp only [go_sem, Bool.and_self, eq_self]; done) | omega | (simp only [List.length_cons, List.length_nil]; omega)) only [go_sem, ↓reduceIte, Nat.reduceEqDiff, Nat.reduceAdd, Nat.reduceMul, Nat.reduceSub, Int.reduceToNat]
  refine WP_for 5 xs.length (fun i st h => st 0 = LI xs ∧ st 1 = LI ys ∧ ∀ j, j < i → nth xs j = nth ys j) (by simp (disch := first | (simp only [go_sem, Bool.and_self, eq_self]; done) | omega | (simp only [List.length_cons, List.length_nil]; omega)) only [go_sem, ↓reduceIte, Nat.reduceEqDiff, Nat.reduceAdd, Nat.reduceMul, Nat.reduceSub, Int.reduceToNat]) ⟨by simp (disch := first | (simp only [go_sem, Bool.and_self, eq_self]; done) | omega | (simp only [List.length_cons, List.length_nil]; omega)) only [go_sem, ↓reduceIte, Nat.reduceEqDiff, Nat.reduceAdd, Nat.reduceMul, Nat.reduceSub, Int.reduceToNat], by simp (disch := first | (simp only [go_sem, Bool.and_self, eq_self]; done) | omega | (simp only [List.length_cons, List.length_nil]; omega)) only [go_sem, ↓reduceIte, Nat.reduceEqDiff, Nat.reduceAdd, Nat.reduceMul, Nat.reduceSub, Int.reduceToNat], by omega⟩ ?_
  rintro i st h hi s5 ⟨s0, s1, heq⟩
  by_cases hlt : i < xs.length
  case neg =>
    have : xs = ys := list_ext_nth hl fun j hj => heq j (by omega)
    simp (disch := first | (simp only [go_sem, Bool.and_self, eq_self]; done) | omega | (simp only [List.length_cons, List.length_nil]; omega)) only [go_sem, ↓reduceIte, Nat.reduceEqDiff, Nat.reduceAdd, Nat.reduceMul, Nat.reduceSub, Int.reduceToNat, s0, s1, s5, hlt, decide_eq_true this]
  have hlt2 : i < ys.length := by omega
  by_cases he : nth xs i = nth ys i
  case neg =>
    have : ¬ xs = ys := fun h => he (by rw [h])
    simp (disch := first | (simp only [go_sem, Bool.and_self, eq_self]; done) | omega | (simp only [List.length_cons, List.length_nil]; omega)) only [go_sem, ↓reduceIte, Nat.reduceEqDiff, Nat.reduceAdd, Nat.reduceMul, Nat.reduceSub, Int.reduceToNat, s0, s1, s5, hlt, hlt2, he, decide_eq_false this]
  simp (disch := first | (simp only [go_sem, Bool.and_self, eq_self]; done) | omega | (simp only [List.length_cons, List.length_nil]; omega)) only [go_sem, ↓reduceIte, Nat.reduceEqDiff, Nat.reduceAdd, Nat.reduceMul, Nat.reduceSub, Int.reduceToNat, s0, s1, s5, hlt, hlt2, he]
  rw [ForK_normal]
  refine ⟨hlt, by simp (disch := first | (simp only [go_sem, Bool.and_self, eq_self]; done) | omega | (simp only [List.length_cons, List.length_nil]; omega)) only [go_sem, ↓reduceIte, Nat.reduceEqDiff, Nat.reduceAdd, Nat.reduceMul, Nat.reduceSub, Int.reduceToNat, s5], by simp (disch := first | (simp only [go_sem, Bool.and_self, eq_self]; done) | omega | (simp only [List.length_cons, List.length_nil]; omega)) only [go_sem, ↓reduceIte, Nat.reduceEqDiff, Nat.reduceAdd, Nat.reduceMul, Nat.reduceSub, Int.reduceToNat, s0], by simp (disch := first | (simp only [go_sem, Bool.and_self, eq_self]; done) | omega | (simp only [List.length_cons, List.length_nil]; omega)) only [go_sem, ↓reduceIte, Nat.reduceEqDiff, Nat.reduceAdd, Nat.reduceMul, Nat.reduceSub, Int.reduceToNat, s1], fun j hj => ?_⟩
  rcases Nat.lt_or_ge j i with h | h
  · exact heq j h
  · rwa [show j = i by omega]
theorem k47 (xs ys : List Int) (hx : xs.length ≤ 9223372036854775807) (hl : xs.length = ys.length) : ConW Try.prog cfg 47 h (some ([LI xs, LI ys], h')) K = K (.bool (decide (xs = ys))) h := ConW_num (f47_con xs ys hx hl) rfl

theorem f44_con (m l : List Int) (hx : l.length ≤ 9223372036854775807) : Con Try.prog cfg 44 [LI m, .pp [LI l]] (.bool (decide (l = m))) := by
  have kk := fun h h' K => k45 (h := h) (h' := h') (K := K) l m hx
  refine Con_intro Try.func44 rfl ok44 (Nat.le_of_ble_eq_true rfl) rfl ?_
  simp only [Try.f44, Option.getD_some, initSt2]
  simp (disch := first | (simp only [go_sem, Bool.and_self, eq_self]; done) | omega | (simp only [List.length_cons, List.length_nil]; omega)) only [go_sem, ↓reduceIte, Nat.reduceEqDiff, Nat.reduceAdd, Nat.reduceMul, Nat.reduceSub, Int.reduceToNat, kk]

/-- The first place where a row is, or -1. -/
def findR (xs : List (List Int)) (r : List Int) : Int := match xs.findIdx? (fun m => decide (r = m)) with | some i => i | none => -1
theorem f43_con (xs : List (List Int)) (hx : xs.length ≤ 9223372036854775807) (l : List Int) (hl : l.length ≤ 9223372036854775807) : Con Try.prog cfg 43 [LLI xs, .fn 44 [.pp [LI l]]] (I (findR xs l)) := by
  have kg : ∀ m h h' K, ConW Try.prog cfg 44 h (some ([LI m, .pp [LI l]], h')) K = K (.bool (decide (l = m))) h := fun m h h' K => ConW_num (f44_con m l hl) rfl
  refine Con_intro Try.func43 rfl ok43 (Nat.le_of_ble_eq_true rfl) rfl ?_
  simp only [Try.f43, Option.getD_some, initSt2]
  simp (disch := first | (simp only [go_sem, Bool.and_self, eq_self]; done) | omega | (simp only [List.length_cons, List.length_nil]; omega)) only [go_sem, ↓reduceIte, Nat.reduceEqDiff, Nat.reduceAdd, Nat.reduceMul, Nat.reduceSub, Int.reduceToNat]
  refine WP_for 8 xs.length (fun i st h => st 0 = LLI xs ∧ st 1 = .fn 44 [.pp [LI l]] ∧ st 7 = I xs.length ∧ ∀ j, j < i → ¬ l = nth xs j) (by simp (disch := first | (simp only [go_sem, Bool.and_self, eq_self]; done) | omega | (simp only [List.length_cons, List.length_nil]; omega)) only [go_sem, ↓reduceIte, Nat.reduceEqDiff, Nat.reduceAdd, Nat.reduceMul, Nat.reduceSub, Int.reduceToNat]) ⟨by simp (disch := first | (simp only [go_sem, Bool.and_self, eq_self]; done) | omega | (simp only [List.length_cons, List.length_nil]; omega)) only [go_sem, ↓reduceIte, Nat.reduceEqDiff, Nat.reduceAdd, Nat.reduceMul, Nat.reduceSub, Int.reduceToNat], by simp (disch := first | (simp only [go_sem, Bool.and_self, eq_self]; done) | omega | (simp only [List.length_cons, List.length_nil]; omega)) only [go_sem, ↓reduceIte, Nat.reduceEqDiff, Nat.reduceAdd, Nat.reduceMul, Nat.reduceSub, Int.reduceToNat], by simp (disch := first | (simp only [go_sem, Bool.and_self, eq_self]; done) | omega | (simp only [List.length_cons, List.length_nil]; omega)) only [go_sem, ↓reduceIte, Nat.reduceEqDiff, Nat.reduceAdd, Nat.reduceMul, Nat.reduceSub, Int.reduceToNat], by omega⟩ ?_
  rintro i st h hi s8 ⟨s0, s1, s7, hn⟩
  by_cases hlt : i < xs.length
  case neg =>
    have : findR xs l = -1 := by
      have : xs.findIdx? (fun m => decide (l = m)) = none := by
        rw [List.findIdx?_eq_none_iff]
        intro x hx'
        obtain ⟨j, hj, rfl⟩ := List.getElem_of_mem hx'
        rw [← nth_getElem hj]
        simpa using hn j (by omega)
      simp [findR, this]
    simp (disch := first | (simp only [go_sem, Bool.and_self, eq_self]; done) | omega | (simp only [List.length_cons, List.length_nil]; omega)) only [go_sem, ↓reduceIte, Nat.reduceEqDiff, Nat.reduceAdd, Nat.reduceMul, Nat.reduceSub, Int.reduceToNat, s0, s1, s7, s8, hlt, this]
  have hpp : sealA h (.pp [LI l]) = some (.pp [LI l], h) := sealA_pp _ (by simp only [AV.pureL, pure_L, Bool.and_self])
  by_cases hpx : l = nth xs i
  · have : findR xs l = i := by
      have : xs.findIdx? (fun m => decide (l = m)) = some i := by
        rw [List.findIdx?_eq_some_iff_getElem]
        refine ⟨hlt, by rw [← nth_getElem hlt]; exact decide_eq_true hpx, fun j hj => ?_⟩
        rw [← nth_getElem (by omega)]
        simpa using hn j hj
      simp [findR, this]
    simp (disch := first | (simp only [go_sem, Bool.and_self, eq_self]; done) | omega | (simp only [List.length_cons, List.length_nil]; omega)) only [go_sem, ↓reduceIte, Nat.reduceEqDiff, Nat.reduceAdd, Nat.reduceMul, Nat.reduceSub, Int.reduceToNat, s0, s1, s7, s8, hlt, hpp, kg, decide_eq_true hpx, this]
  · simp (disch := first | (simp only [go_sem, Bool.and_self, eq_self]; done) | omega | (simp only [List.length_cons, List.length_nil]; omega)) only [go_sem, ↓reduceIte, Nat.reduceEqDiff, Nat.reduceAdd, Nat.reduceMul, Nat.reduceSub, Int.reduceToNat, s0, s1, s7, s8, hlt, hpp, kg, decide_eq_false hpx]
    rw [ForK_normal]
    refine ⟨hlt, by simp (disch := first | (simp only [go_sem, Bool.and_self, eq_self]; done) | omega | (simp only [List.length_cons, List.length_nil]; omega)) only [go_sem, ↓reduceIte, Nat.reduceEqDiff, Nat.reduceAdd, Nat.reduceMul, Nat.reduceSub, Int.reduceToNat, s8], by simp (disch := first | (simp only [go_sem, Bool.and_self, eq_self]; done) | omega | (simp only [List.length_cons, List.length_nil]; omega)) only [go_sem, ↓reduceIte, Nat.reduceEqDiff, Nat.reduceAdd, Nat.reduceMul, Nat.reduceSub, Int.reduceToNat, s0], by simp (disch := first | (simp only [go_sem, Bool.and_self, eq_self]; done) | omega | (simp only [List.length_cons, List.length_nil]; omega)) only [go_sem, ↓reduceIte, Nat.reduceEqDiff, Nat.reduceAdd, Nat.reduceMul, Nat.reduceSub, Int.reduceToNat, s1], by simp (disch := first | (simp only [go_sem, Bool.and_self, eq_self]; done) | omega | (simp only [List.length_cons, List.length_nil]; omega)) only [go_sem, ↓reduceIte, Nat.reduceEqDiff, Nat.reduceAdd, Nat.reduceMul, Nat.reduceSub, Int.reduceToNat, s7], fun j hj => ?_⟩
    rcases Nat.lt_or_ge j i with hj' | hj'
    · exact hn j hj'
    · rwa [show j = i by omega]
theorem k43 (xs : List (List Int)) (hx : xs.length ≤ 9223372036854775807) (l : List Int) (hl : l.length ≤ 9223372036854775807) : ConW Try.prog cfg 43 h (some ([LLI xs, .fn 44 [.pp [LI l]]], h')) K = K (I (findR xs l)) h := ConW_num (f43_con xs hx l hl) rfl

/-- slices.Clone. -/
theorem f46_con (x : Int) (xs : List Int) (hx : (x :: xs).length ≤ 1000000) : Con Try.prog cfg 46 [LI (x :: xs)] (LI (x :: xs)) := by
  refine Con_intro Try.func46 rfl ok46 (Nat.le_of_ble_eq_true rfl) rfl ?_
  simp only [Try.f46, Option.getD_some, initSt1]
  have happ := app_own (P := Try.prog) (h := Hp.empty.alloc (.cells false true [])) (f := e1 I) 3 8 (I 0) (LI (x :: xs)) 0 [] (x :: xs) 0 isz3 ibytes3 izero3 rfl rfl rfl (cellsOf_L _ _) (lenA_L _ _) (by rw [List.length_nil]; omega) (by rw [List.length_nil]; omega)
  have heq : binA Try.prog .eql 27 (LI (x :: xs)) .nil = some (.bool false) := eql_nil_cons 27 3 und27 _ _
  have hbe := bsB_empty (P := Try.prog) (h := Hp.empty) 3 1 (I 0) isz3 izero3 (by decide)
  simp (disch := first | (simp only [go_sem, Bool.and_self, eq_self]; done) | omega | (simp only [List.length_cons, List.length_nil]; omega)) only [go_sem, ↓reduceIte, Nat.reduceEqDiff, Nat.reduceAdd, Nat.reduceMul, Nat.reduceSub, Int.reduceToNat, heq, hbe, happ, List.length_nil]
  refine export_Own (f := e1 I) (xs := x :: xs) 27 (.inr ⟨1, ?_, ?_, ?_⟩)
  · simp
  · exact Nat.lt_succ_self 1
  · rfl
theorem k46 (l : List Int) (h0 : 0 < l.length) (hx : l.length ≤ 1000000) : ConW Try.prog cfg 46 h (some ([LI l], h')) K = K (LI l) h' := by
  cases l with
  | nil => cases h0
  | cons x xs => rw [ConW_any (f46_con x xs hx) rfl]; rfl

/-- The plan without repeated keys, of the first n keys. -/
def mrgO (a : List (List Int)) : Nat → List (List Int)
  | 0 => []
  | n + 1 => if nth a n ∈ mrgO a n then mrgO a n else mrgO a n ++ [nth a n]
/-- The place of a row, or the length. -/
def idxR (xs : List (List Int)) (r : List Int) : Nat := xs.findIdx (fun m => decide (r = m))
def mrgL (a : List (List Int)) (n : Nat) : List Int := (List.range n).map fun i => (idxR (mrgO a i) (nth a i) : Int)
theorem mrgO_len (a : List (List Int)) (n : Nat) : (mrgO a n).length ≤ n := by
  induction n with
  | zero => simp [mrgO]
  | succ n ih =>
    rw [mrgO]; split
    · omega
    · simp; omega
theorem mrgL_len (a : List (List Int)) (n : Nat) : (mrgL a n).length = n := by simp [mrgL]
theorem mrgL_succ (a : List (List Int)) (n : Nat) : mrgL a (n + 1) = mrgL a n ++ [(idxR (mrgO a n) (nth a n) : Int)] := (rows_snoc (fun i => (idxR (mrgO a i) (nth a i) : Int)) n).symm
theorem idxR_le (xs : List (List Int)) (r : List Int) : idxR xs r ≤ xs.length := List.findIdx_le_length
theorem idxR_not {xs : List (List Int)} {r : List Int} (h : ¬ r ∈ xs) : idxR xs r = xs.length := by
  refine List.findIdx_eq_length.2 fun x hx => ?_
  simp only [decide_eq_false_iff_not]
  rintro rfl
  exact h hx
theorem findR_mem {xs : List (List Int)} {r : List Int} (h : r ∈ xs) : findR xs r = (idxR xs r : Int) := by
  have h1 : xs.findIdx (fun m => decide (r = m)) < xs.length := List.findIdx_lt_length_of_exists ⟨r, h, by simp⟩
  have : xs.findIdx? (fun m => decide (r = m)) = some (xs.findIdx (fun m => decide (r = m))) := List.findIdx?_eq_some_of_exists ⟨r, h, by simp⟩
  simp [findR, this, idxR]
theorem findR_not {xs : List (List Int)} {r : List Int} (h : ¬ r ∈ xs) : findR xs r = -1 := by
  have : xs.findIdx? (fun m => decide (r = m)) = none := by
    rw [List.findIdx?_eq_none_iff]
    intro x hx
    simp only [decide_eq_false_iff_not]
    rintro rfl
    exact h hx
  simp [findR, this]

theorem f29_con (a : List (List Int)) (ha : okLL a) : Con Try.prog cfg 29 [LLI a] (.tup [LLI (if isPlanB a then mrgO a a.length else []), LI (if isPlanB a then mrgL a a.length else []), I (if isPlanB a then 0 else 2)]) := by
  have kk1 := fun h h' K => k32 (h := h) (h' := h') (K := K) a ha
  refine Con_intro Try.func29 rfl ok29 (Nat.le_of_ble_eq_true rfl) rfl ?_
  simp only [Try.f29, Option.getD_some, initSt1]
  cases hp : isPlanB a with
  | false =>
    simp (disch := first | (simp only [go_sem, Bool.and_self, eq_self]; done) | omega | (simp only [List.length_cons, List.length_nil]; omega)) only [go_sem, ↓reduceIte, Nat.reduceEqDiff, Nat.reduceAdd, Nat.reduceMul, Nat.reduceSub, Int.reduceToNat, kk1, hp]
    rfl
  | true =>
  have hpl := hp
  simp only [isPlanB, Bool.and_eq_true, decide_eq_true_eq] at hpl
  obtain ⟨⟨p1, p2⟩, p3⟩ := hpl
  simp (disch := first | (simp only [go_sem, Bool.and_self, eq_self]; done) | omega | (simp only [List.length_cons, List.length_nil]; omega)) only [go_sem, ↓reduceIte, Nat.reduceEqDiff, Nat.reduceAdd, Nat.reduceMul, Nat.reduceSub, Int.reduceToNat, kk1, hp]
  refine WP_for 15 a.length (fun i st h => st 13 = LLI a ∧ st 14 = I a.length ∧ ∃ v w, st 5 = v ∧ st 6 = w ∧ Own (e1 LI) 1 h v (mrgO a i) ∧ Own (e1 I) 1 h w (mrgL a i) ∧ Dis v w) (by simp (disch := first | (simp only [go_sem, Bool.and_self, eq_self]; done) | omega | (simp only [List.length_cons, List.length_nil]; omega)) only [go_sem, ↓reduceIte, Nat.reduceEqDiff, Nat.reduceAdd, Nat.reduceMul, Nat.reduceSub, Int.reduceToNat]) ⟨by simp (disch := first | (simp only [go_sem, Bool.and_self, eq_self]; done) | omega | (simp only [List.length_cons, List.length_nil]; omega)) only [go_sem, ↓reduceIte, Nat.reduceEqDiff, Nat.reduceAdd, Nat.reduceMul, Nat.reduceSub, Int.reduceToNat], by simp (disch := first | (simp only [go_sem, Bool.and_self, eq_self]; done) | omega | (simp only [List.length_cons, List.length_nil]; omega)) only [go_sem, ↓reduceIte, Nat.reduceEqDiff, Nat.reduceAdd, Nat.reduceMul, Nat.reduceSub, Int.reduceToNat], .nil, .nil, by simp (disch := first | (simp only [go_sem, Bool.and_self, eq_self]; done) | omega | (simp only [List.length_cons, List.length_nil]; omega)) only [go_sem, ↓reduceIte, Nat.reduceEqDiff, Nat.reduceAdd, Nat.reduceMul, Nat.reduceSub, Int.reduceToNat], by simp (disch := first | (simp only [go_sem, Bool.and_self, eq_self]; done) | omega | (simp only [List.length_cons, List.length_nil]; omega)) only [go_sem, ↓reduceIte, Nat.reduceEqDiff, Nat.reduceAdd, Nat.reduceMul, Nat.reduceSub, Int.reduceToNat], .inl ⟨rfl, rfl⟩, .inl ⟨rfl, rfl⟩, Dis.nil_l _⟩ ?_
  rintro i st h hi s15 ⟨s13, s14, v, w, s5, s6, hov, how, hd⟩
  by_cases hlt : i < a.length
  case neg =>
    have hie : i = a.length := by omega
    subst hie
    simp (disch := first | (simp only [go_sem, Bool.and_self, eq_self]; done) | omega | (simp only [List.length_cons, List.length_nil]; omega)) only [go_sem, ↓reduceIte, Nat.reduceEqDiff, Nat.reduceAdd, Nat.reduceMul, Nat.reduceSub, Int.reduceToNat, s13, s14, s15, s5, s6, hlt]
    obtain ⟨h2, z1, z2, z3⟩ := sealA_Own hov
    have how2 : Own (e1 I) 1 h2 w (mrgL a a.length) := by
      rcases how with o | ⟨id, q1, q2, q3⟩
      · exact .inl o
      · exact .inr ⟨id, q1, by omega, by rw [z3 id (fun id' off n sz' q => (hd _ _ _ _ _ _ _ _ q q1).symm)]; exact q3⟩
    obtain ⟨h3, z4, z5, z6⟩ := sealA_Own how2
    simp (disch := first | (simp only [go_sem, Bool.and_self, eq_self]; done) | omega | (simp only [List.length_cons, List.length_nil]; omega)) only [go_sem, ↓reduceIte, Nat.reduceEqDiff, Nat.reduceAdd, Nat.reduceMul, Nat.reduceSub, Int.reduceToNat, z1, z4]
  have hrow := all_nth p3 hlt
  simp only [Bool.and_eq_true, decide_eq_true_eq] at hrow
  have hrl := hrow.1
  have hml := mrgO_len a i
  have hll := mrgL_len a i
  generalize hG : ((h.alloc (.cells false false [.nil])).put h.nx (some (.cells false false [LI (nth a i)]))) = G
  have hG1 : G.bl h.nx = some (.cells false false [LI (nth a i)]) := by rw [← hG]; simp (disch := first | (simp only [go_sem, Bool.and_self, eq_self]; done) | omega | (simp only [List.length_cons, List.length_nil]; omega)) only [go_sem, ↓reduceIte, Nat.reduceEqDiff, Nat.reduceAdd, Nat.reduceMul, Nat.reduceSub, Int.reduceToNat]
  have hG2 : ∀ id, id < h.nx → G.bl id = h.bl id := by intro id hid; rw [← hG]; simp (disch := first | (simp only [go_sem, Bool.and_self, eq_self]; done) | omega | (simp only [List.length_cons, List.length_nil]; omega)) only [go_sem, ↓reduceIte, Nat.reduceEqDiff, Nat.reduceAdd, Nat.reduceMul, Nat.reduceSub, Int.reduceToNat, Nat.ne_of_lt hid]
  have hG3 : G.nx = h.nx + 1 := by rw [← hG]; simp (disch := first | (simp only [go_sem, Bool.and_self, eq_self]; done) | omega | (simp only [List.length_cons, List.length_nil]; omega)) only [go_sem, ↓reduceIte, Nat.reduceEqDiff, Nat.reduceAdd, Nat.reduceMul, Nat.reduceSub, Int.reduceToNat]
  have hovG := hov.mono (h' := G) (by omega) hG2
  have howG := how.mono (h' := G) (by omega) hG2
  obtain ⟨G2, es1, es2, es3⟩ := sealA_Own hovG
  have hG4 : G2.bl h.nx = some (.cells false false [LI (nth a i)]) := by
    rw [es3 _ ?_]; exact hG1
    intro id off n sz e
    rcases hov with ⟨rfl, _⟩ | ⟨id', e', hi', _⟩
    · cases e
    · rw [e'] at e; cases e; omega
  have es4 := sealA_fn1 44 h.nx false false (LI (nth a i)) (pure_L _) hG4
  have kk2 := fun h h' K => k43 (h := h) (h' := h') (K := K) (mrgO a i) (by omega) (nth a i) (by omega)
  have kk3 := fun h h' K => k46 (h := h) (h' := h') (K := K) (nth a i) (by omega) (by omega)
  have hlenv := hovG.lenB 27
  by_cases hm : nth a i ∈ mrgO a i
  · have hbs := fun h : Hp => bsB_one (P := Try.prog) (h := h) 3 (I (idxR (mrgO a i) (nth a i))) (I (idxR (mrgO a i) (nth a i))) (I 0) h isz3 izero3 rfl rfl rfl rfl rfl rfl rfl
    have happ := app_one (P := Try.prog) howG 3 8 (I 0) (idxR (mrgO a i) (nth a i) : Int) isz3 ibytes3 izero3 rfl (by omega) (by omega)
    have hfr := findR_mem hm
    have hnn : ¬ ((idxR (mrgO a i) (nth a i) : Nat) : Int) < 0 := by omega
    simp (disch := first | (simp only [go_sem, Bool.and_self, eq_self]; done) | omega | (simp only [List.length_cons, List.length_nil]; omega)) only [go_sem, ↓reduceIte, Nat.reduceEqDiff, Nat.reduceAdd, Nat.reduceMul, Nat.reduceSub, Int.reduceToNat, s13, s14, s15, s5, s6, hlt, hG, es1, es4, kk2, hfr, hnn, hbs, happ]
    rw [ForK_normal]
    refine ⟨hlt, by simp (disch := first | (simp only [go_sem, Bool.and_self, eq_self]; done) | omega | (simp only [List.length_cons, List.length_nil]; omega)) only [go_sem, ↓reduceIte, Nat.reduceEqDiff, Nat.reduceAdd, Nat.reduceMul, Nat.reduceSub, Int.reduceToNat, s15], by simp (disch := first | (simp only [go_sem, Bool.and_self, eq_self]; done) | omega | (simp only [List.length_cons, List.length_nil]; omega)) only [go_sem, ↓reduceIte, Nat.reduceEqDiff, Nat.reduceAdd, Nat.reduceMul, Nat.reduceSub, Int.reduceToNat, s13], by simp (disch := first | (simp only [go_sem, Bool.and_self, eq_self]; done) | omega | (simp only [List.length_cons, List.length_nil]; omega)) only [go_sem, ↓reduceIte, Nat.reduceEqDiff, Nat.reduceAdd, Nat.reduceMul, Nat.reduceSub, Int.reduceToNat, s14], v, _, by simp (disch := first | (simp only [go_sem, Bool.and_self, eq_self]; done) | omega | (simp only [List.length_cons, List.length_nil]; omega)) only [go_sem, ↓reduceIte, Nat.reduceEqDiff, Nat.reduceAdd, Nat.reduceMul, Nat.reduceSub, Int.reduceToNat, s5], by simp (disch := first | (simp only [go_sem, Bool.and_self, eq_self]; done) | omega | (simp only [List.length_cons, List.length_nil]; omega)) only [go_sem, ↓reduceIte, Nat.reduceEqDiff, Nat.reduceAdd, Nat.reduceMul, Nat.reduceSub, Int.reduceToNat]; rfl, ?_, ?_, ?_⟩
    · rw [mrgO, if_pos hm]; exact hovG.keep hd.symm _
    · rw [mrgL_succ]; exact Own.app _ _ _
    · exact (hovG.dis _ _).symm
  · have happ1 := app_one (P := Try.prog) hovG 27 24 .nil (nth a i) isz27 ibytes27 izero27 rfl (by omega) (by omega)
    have hbs1 := fun h : Hp => bsB_one (P := Try.prog) (h := h) 27 (LI (nth a i)) (LI (nth a i)) .nil h isz27 izero27 rfl rfl rfl (sealA_L _) rfl rfl (pure_L _)
    have hbs := fun h : Hp => bsB_one (P := Try.prog) (h := h) 3 (I (mrgO a i).length) (I (mrgO a i).length) (I 0) h isz3 izero3 rfl rfl rfl rfl rfl rfl rfl
    have howG2 := howG.keep hd ((mrgO a i ++ [nth a i]).flatMap (e1 LI))
    have happ := app_one (P := Try.prog) howG2 3 8 (I 0) ((mrgO a i).length : Int) isz3 ibytes3 izero3 rfl (by omega) (by omega)
    have hfr := findR_not hm
    simp (disch := first | (simp only [go_sem, Bool.and_self, eq_self]; done) | omega | (simp only [List.length_cons, List.length_nil]; omega)) only [go_sem, ↓reduceIte, Nat.reduceEqDiff, Nat.reduceAdd, Nat.reduceMul, Nat.reduceSub, Int.reduceToNat, s13, s14, s15, s5, s6, hlt, hG, hG1, es1, es4, kk2, kk3, hfr, hlenv, hbs1, happ1, hbs, happ, (by decide : (-1 : Int) < 0)]
    rw [ForK_normal]
    have hid := idxR_not hm
    refine ⟨hlt, by simp (disch := first | (simp only [go_sem, Bool.and_self, eq_self]; done) | omega | (simp only [List.length_cons, List.length_nil]; omega)) only [go_sem, ↓reduceIte, Nat.reduceEqDiff, Nat.reduceAdd, Nat.reduceMul, Nat.reduceSub, Int.reduceToNat, s15], by simp (disch := first | (simp only [go_sem, Bool.and_self, eq_self]; done) | omega | (simp only [List.length_cons, List.length_nil]; omega)) only [go_sem, ↓reduceIte, Nat.reduceEqDiff, Nat.reduceAdd, Nat.reduceMul, Nat.reduceSub, Int.reduceToNat, s13], by simp (disch := first | (simp only [go_sem, Bool.and_self, eq_self]; done) | omega | (simp only [List.length_cons, List.length_nil]; omega)) only [go_sem, ↓reduceIte, Nat.reduceEqDiff, Nat.reduceAdd, Nat.reduceMul, Nat.reduceSub, Int.reduceToNat, s14], _, _, by simp (disch := first | (simp only [go_sem, Bool.and_self, eq_self]; done) | omega | (simp only [List.length_cons, List.length_nil]; omega)) only [go_sem, ↓reduceIte, Nat.reduceEqDiff, Nat.reduceAdd, Nat.reduceMul, Nat.reduceSub, Int.reduceToNat]; rfl, by simp (disch := first | (simp only [go_sem, Bool.and_self, eq_self]; done) | omega | (simp only [List.length_cons, List.length_nil]; omega)) only [go_sem, ↓reduceIte, Nat.reduceEqDiff, Nat.reduceAdd, Nat.reduceMul, Nat.reduceSub, Int.reduceToNat]; rfl, ?_, ?_, ?_⟩
    · rw [mrgO, if_neg hm]
      exact (Own.app G v (mrgO a i ++ [nth a i])).keep (howG.dis _ _).symm _
    · rw [mrgL_succ, hid]; exact Own.app _ _ _
    · exact ((Own.app G v (mrgO a i ++ [nth a i])).dis _ _).symm
theorem k29 (a : List (List Int)) (ha : okLL a) : ConW Try.prog cfg 29 h (some ([LLI a], h')) K = K (.tup [LLI (if isPlanB a then mrgO a a.length else []), LI (if isPlanB a then mrgL a a.length else []), I (if isPlanB a then 0 else 2)]) h' := by
  rw [ConW_any (f29_con a ha) rfl, importR_three rfl rfl rfl]

theorem f31_con (xs ys : List (List Int)) (hx : okLL xs) : Con Try.prog cfg 31 [LLI xs, LLI ys] (.bool (decide (xs = ys))) := by
  have hxl := hx.1
  refine Con_intro Try.func31 rfl ok31 (Nat.le_of_ble_eq_true rfl) rfl ?_
  simp only [Try.f31, Option.getD_some, initSt2]
  by_cases hl : xs.length = ys.length
  case neg =>
    have hne : ¬ xs = ys := fun h => hl (by rw [h])
    simp (disch := first | (simp only [go_sem, Bool.and_self, eq_self]; done) | omega | (simp only [List.length_cons, List.length_nil]; omega)) only [go_sem, ↓reduceIte, Nat.reduceEqDiff, Nat.reduceAdd, Nat.reduceMul, Nat.reduceSub, Int.reduceToNat, hl, decide_eq_false hne]
  simp (disch := first | (simp only [go_sem, Bool.and_self, eq_self]; done) | omega | (simp only [List.length_cons, List.length_nil]; omega)) only [go_sem, ↓reduceIte, Nat.reduceEqDiff, Nat.reduceAdd, Nat.reduceMul, Nat.reduceSub, Int.reduceToNat, hl]
  refine WP_for 5 xs.length (fun i st h => st 0 = LLI xs ∧ st 1 = LLI ys ∧ ∀ j, j < i → nth xs j = nth ys j) (by simp (disch := first | (simp only [go_sem, Bool.and_self, eq_self]; done) | omega | (simp only [List.length_cons, List.length_nil]; omega)) only [go_sem, ↓reduceIte, Nat.reduceEqDiff, Nat.reduceAdd, Nat.reduceMul, Nat.reduceSub, Int.reduceToNat]) ⟨by simp (disch := first | (simp only [go_sem, Bool.and_self, eq_self]; done) | omega | (simp only [List.length_cons, List.length_nil]; omega)) only [go_sem, ↓reduceIte, Nat.reduceEqDiff, Nat.reduceAdd, Nat.reduceMul, Nat.reduceSub, Int.reduceToNat], by simp (disch := first | (simp only [go_sem, Bool.and_self, eq_self]; done) | omega | (simp only [List.length_cons, List.length_nil]; omega)) only [go_sem, ↓reduceIte, Nat.reduceEqDiff, Nat.reduceAdd, Nat.reduceMul, Nat.reduceSub, Int.reduceToNat], by omega⟩ ?_
  rintro i st h hi s5 ⟨s0, s1, heq⟩
  by_cases hlt : i < xs.length
  case neg =>
    have : xs = ys := list_ext_nth hl fun j hj => heq j (by omega)
    simp (disch := first | (simp only [go_sem, Bool.and_self, eq_self]; done) | omega | (simp only [List.length_cons, List.length_nil]; omega)) only [go_sem, ↓reduceIte, Nat.reduceEqDiff, Nat.reduceAdd, Nat.reduceMul, Nat.reduceSub, Int.reduceToNat, s0, s1, s5, hlt, decide_eq_true this]
  have hlt2 : i < ys.length := by omega
  have kk := fun h h' K => k16 (h := h) (h' := h') (K := K) (nth xs i) (nth ys i) (hx.row hlt)
  by_cases he : nth xs i = nth ys i
  case neg =>
    have : ¬ xs = ys := fun h => he (by rw [h])
    simp (disch := first | (simp only [go_sem, Bool.and_self, eq_self]; done) | omega | (simp only [List.length_cons, List.length_nil]; omega)) only [go_sem, ↓reduceIte, Nat.reduceEqDiff, Nat.reduceAdd, Nat.reduceMul, Nat.reduceSub, Int.reduceToNat, s0, s1, s5, hlt, hlt2, kk, decide_eq_false he, decide_eq_false this]
  simp (disch := first | (simp only [go_sem, Bool.and_self, eq_self]; done) | omega | (simp only [List.length_cons, List.length_nil]; omega)) only [go_sem, ↓reduceIte, Nat.reduceEqDiff, Nat.reduceAdd, Nat.reduceMul, Nat.reduceSub, Int.reduceToNat, s0, s1, s5, hlt, hlt2, kk, decide_eq_true he]
  rw [ForK_normal]
  refine ⟨hlt, by simp (disch := first | (simp only [go_sem, Bool.and_self, eq_self]; done) | omega | (simp only [List.length_cons, List.length_nil]; omega)) only [go_sem, ↓reduceIte, Nat.reduceEqDiff, Nat.reduceAdd, Nat.reduceMul, Nat.reduceSub, Int.reduceToNat, s5], by simp (disch := first | (simp only [go_sem, Bool.and_self, eq_self]; done) | omega | (simp only [List.length_cons, List.length_nil]; omega)) only [go_sem, ↓reduceIte, Nat.reduceEqDiff, Nat.reduceAdd, Nat.reduceMul, Nat.reduceSub, Int.reduceToNat, s0], by simp (disch := first | (simp only [go_sem, Bool.and_self, eq_self]; done) | omega | (simp only [List.length_cons, List.length_nil]; omega)) only [go_sem, ↓reduceIte, Nat.reduceEqDiff, Nat.reduceAdd, Nat.reduceMul, Nat.reduceSub, Int.reduceToNat, s1], fun j hj => ?_⟩
  rcases Nat.lt_or_ge j i with h | h
  · exact heq j h
  · rwa [show j = i by omega]
theorem k31 (xs ys : List (List Int)) (hx : okLL xs) : ConW Try.prog cfg 31 h (some ([LLI xs, LLI ys], h')) K = K (.bool (decide (xs = ys))) h := ConW_num (f31_con xs ys hx) rfl

theorem mrgO_mem {a : List (List Int)} {n : Nat} {r : List Int} (h : r ∈ mrgO a n) : ∃ i, i < n ∧ r = nth a i := by
  induction n with
  | zero => simp [mrgO] at h
  | succ n ih =>
    rw [mrgO] at h
    split at h
    · obtain ⟨i, h1, h2⟩ := ih h; exact ⟨i, by omega, h2⟩
    · rcases List.mem_append.1 h with h | h
      · obtain ⟨i, h1, h2⟩ := ih h; exact ⟨i, by omega, h2⟩
      · simp at h; exact ⟨n, by omega, h⟩
theorem idxR_lt {xs : List (List Int)} {r : List Int} (h : r ∈ xs) : idxR xs r < xs.length := List.findIdx_lt_length_of_exists ⟨r, h, by simp⟩
theorem idxR_nth {xs : List (List Int)} {r : List Int} (h : r ∈ xs) : nth xs (idxR xs r) = r := by
  rw [nth_getElem (idxR_lt h)]
  have := List.findIdx_getElem (p := fun m => decide (r = m)) (w := idxR_lt h)
  simp only [decide_eq_true_eq] at this
  exact this.symm
theorem idxR_first {xs : List (List Int)} {r : List Int} {j : Nat} (h : j < idxR xs r) : ¬ nth xs j = r := by
  have hl := idxR_le xs r
  have := List.not_of_lt_findIdx h
  simp only [decide_eq_false_iff_not] at this
  rw [nth_getElem (by omega)]
  intro e; exact this (by rw [e])

theorem f30_con (a : List (List Int)) (hp : isPlanB a = true) : Con Try.prog cfg 30 [LLI a] (.tup [LLI (mrgO a a.length), LI (mrgL a a.length)]) := by
  have hpl := hp
  simp only [isPlanB, Bool.and_eq_true, decide_eq_true_eq] at hpl
  obtain ⟨⟨p1, p2⟩, p3⟩ := hpl
  have hrl : ∀ i, i < a.length → (nth a i).length = (nth a 0).length := by
    intro i hi
    have := all_nth p3 hi
    simp only [Bool.and_eq_true, decide_eq_true_eq] at this
    exact this.1
  refine Con_intro Try.func30 rfl ok30 (Nat.le_of_ble_eq_true rfl) rfl ?_
  simp only [Try.f30, Option.getD_some, initSt1]
  simp (disch := first | (simp only [go_sem, Bool.and_self, eq_self]; done) | omega | (simp only [List.length_cons, List.length_nil]; omega)) only [go_sem, ↓reduceIte, Nat.reduceEqDiff, Nat.reduceAdd, Nat.reduceMul, Nat.reduceSub, Int.reduceToNat]
  refine WP_for 6 a.length (fun i st h => st 0 = LLI a ∧ ∃ v w, st 4 = v ∧ st 5 = w ∧ Own (e1 LI) 1 h v (mrgO a i) ∧ Own (e1 I) 1 h w (mrgL a i) ∧ Dis v w) (by simp (disch := first | (simp only [go_sem, Bool.and_self, eq_self]; done) | omega | (simp only [List.length_cons, List.length_nil]; omega)) only [go_sem, ↓reduceIte, Nat.reduceEqDiff, Nat.reduceAdd, Nat.reduceMul, Nat.reduceSub, Int.reduceToNat]) ⟨by simp (disch := first | (simp only [go_sem, Bool.and_self, eq_self]; done) | omega | (simp only [List.length_cons, List.length_nil]; omega)) only [go_sem, ↓reduceIte, Nat.reduceEqDiff, Nat.reduceAdd, Nat.reduceMul, Nat.reduceSub, Int.reduceToNat], .nil, .nil, by simp (disch := first | (simp only [go_sem, Bool.and_self, eq_self]; done) | omega | (simp only [List.length_cons, List.length_nil]; omega)) only [go_sem, ↓reduceIte, Nat.reduceEqDiff, Nat.reduceAdd, Nat.reduceMul, Nat.reduceSub, Int.reduceToNat], by simp (disch := first | (simp only [go_sem, Bool.and_self, eq_self]; done) | omega | (simp only [List.length_cons, List.length_nil]; omega)) only [go_sem, ↓reduceIte, Nat.reduceEqDiff, Nat.reduceAdd, Nat.reduceMul, Nat.reduceSub, Int.reduceToNat], .inl ⟨rfl, rfl⟩, .inl ⟨rfl, rfl⟩, Dis.nil_l _⟩ ?_
  rintro i st h hi s6 ⟨s0, v, w, s4, s5, hov, how, hd⟩
  by_cases hlt : i < a.length
  case neg =>
    have hie : i = a.length := by omega
    subst hie
    simp (disch := first | (simp only [go_sem, Bool.and_self, eq_self]; done) | omega | (simp only [List.length_cons, List.length_nil]; omega)) only [go_sem, ↓reduceIte, Nat.reduceEqDiff, Nat.reduceAdd, Nat.reduceMul, Nat.reduceSub, Int.reduceToNat, s0, s6, s4, s5, hlt]
    obtain ⟨h2, z1, z2, z3⟩ := sealA_Own hov
    have how2 : Own (e1 I) 1 h2 w (mrgL a a.length) := by
      rcases how with o | ⟨id, q1, q2, q3⟩
      · exact .inl o
      · exact .inr ⟨id, q1, by omega, by rw [z3 id (fun id' off n sz' q => (hd _ _ _ _ _ _ _ _ q q1).symm)]; exact q3⟩
    obtain ⟨h3, z4, z5, z6⟩ := sealA_Own how2
    simp (disch := first | (simp only [go_sem, Bool.and_self, eq_self]; done) | omega | (simp only [List.length_cons, List.length_nil]; omega)) only [go_sem, ↓reduceIte, Nat.reduceEqDiff, Nat.reduceAdd, Nat.reduceMul, Nat.reduceSub, Int.reduceToNat, z1, z4]
  have hml := mrgO_len a i
  have hll := mrgL_len a i
  have hix := idxR_le (mrgO a i) (nth a i)
  have hlenv := hov.lenB 27
  simp (disch := first | (simp only [go_sem, Bool.and_self, eq_self]; done) | omega | (simp only [List.length_cons, List.length_nil]; omega)) only [go_sem, ↓reduceIte, Nat.reduceEqDiff, Nat.reduceAdd, Nat.reduceMul, Nat.reduceSub, Int.reduceToNat, s0, s6, s4, s5, hlt]
  refine WP_cut (fun st g => g = h ∧ st 0 = LLI a ∧ st 4 = v ∧ st 5 = w ∧ st 6 = I i ∧ st 7 = I (idxR (mrgO a i) (nth a i))) ?_ ?_
  · refine WP_for 7 (idxR (mrgO a i) (nth a i)) (fun k st g => g = h ∧ st 0 = LLI a ∧ st 4 = v ∧ st 5 = w ∧ st 6 = I i) (by simp (disch := first | (simp only [go_sem, Bool.and_self, eq_self]; done) | omega | (simp only [List.length_cons, List.length_nil]; omega)) only [go_sem, ↓reduceIte, Nat.reduceEqDiff, Nat.reduceAdd, Nat.reduceMul, Nat.reduceSub, Int.reduceToNat]) ⟨rfl, by simp (disch := first | (simp only [go_sem, Bool.and_self, eq_self]; done) | omega | (simp only [List.length_cons, List.length_nil]; omega)) only [go_sem, ↓reduceIte, Nat.reduceEqDiff, Nat.reduceAdd, Nat.reduceMul, Nat.reduceSub, Int.reduceToNat, s0, s4, s5, s6], by simp (disch := first | (simp only [go_sem, Bool.and_self, eq_self]; done) | omega | (simp only [List.length_cons, List.length_nil]; omega)) only [go_sem, ↓reduceIte, Nat.reduceEqDiff, Nat.reduceAdd, Nat.reduceMul, Nat.reduceSub, Int.reduceToNat, s0, s4, s5, s6], by simp (disch := first | (simp only [go_sem, Bool.and_self, eq_self]; done) | omega | (simp only [List.length_cons, List.length_nil]; omega)) only [go_sem, ↓reduceIte, Nat.reduceEqDiff, Nat.reduceAdd, Nat.reduceMul, Nat.reduceSub, Int.reduceToNat, s0, s4, s5, s6], by simp (disch := first | (simp only [go_sem, Bool.and_self, eq_self]; done) | omega | (simp only [List.length_cons, List.length_nil]; omega)) only [go_sem, ↓reduceIte, Nat.reduceEqDiff, Nat.reduceAdd, Nat.reduceMul, Nat.reduceSub, Int.reduceToNat, s0, s4, s5, s6]⟩ ?_
    rintro k st g hk s7 ⟨rfl, s0, s4, s5, s6⟩
    by_cases hkl : k < (mrgO a i).length
    case neg =>
      have hke : k = idxR (mrgO a i) (nth a i) := by omega
      simp (disch := first | (simp only [go_sem, Bool.and_self, eq_self]; done) | omega | (simp only [List.length_cons, List.length_nil]; omega)) only [go_sem, ↓reduceIte, Nat.reduceEqDiff, Nat.reduceAdd, Nat.reduceMul, Nat.reduceSub, Int.reduceToNat, s0, s4, s5, s6, s7, hlenv, hkl]
      rw [hke]
    obtain ⟨id, hv, hid, hbl⟩ := hov.sl (by omega)
    have hfl := flat_get LI (mrgO a i) k hkl
    obtain ⟨j, hj, hje⟩ := mrgO_mem (nth_mem hkl)
    have kk := fun h h' K => k47 (h := h) (h' := h') (K := K) (nth (mrgO a i) k) (nth a i) (by rw [hje, hrl j (by omega)]; omega) (by rw [hje, hrl j (by omega), hrl i hlt])
    subst hv
    by_cases he : nth (mrgO a i) k = nth a i
    · have hke : k = idxR (mrgO a i) (nth a i) := by
        rcases Nat.lt_or_ge k (idxR (mrgO a i) (nth a i)) with h1 | h1
        · exact absurd he (idxR_first h1)
        · omega
      simp (disch := first | (simp only [go_sem, Bool.and_self, eq_self]; done) | omega | (simp only [List.length_cons, List.length_nil]; omega)) only [go_sem, ↓reduceIte, Nat.reduceEqDiff, Nat.reduceAdd, Nat.reduceMul, Nat.reduceSub, Int.reduceToNat, s0, s4, s5, s6, s7, hkl, hid, hbl, hfl, hlt, kk, decide_eq_true he]
      rw [hke]
    · have hke : k < idxR (mrgO a i) (nth a i) := by
        rcases Nat.lt_or_ge k (idxR (mrgO a i) (nth a i)) with h1 | h1
        · exact h1
        · have h2 : k = idxR (mrgO a i) (nth a i) := by omega
          refine absurd ?_ he
          rw [h2]
          refine idxR_nth ?_
          exact Classical.byContradiction fun hn => by have := idxR_not hn; omega
      simp (disch := first | (simp only [go_sem, Bool.and_self, eq_self]; done) | omega | (simp only [List.length_cons, List.length_nil]; omega)) only [go_sem, ↓reduceIte, Nat.reduceEqDiff, Nat.reduceAdd, Nat.reduceMul, Nat.reduceSub, Int.reduceToNat, s0, s4, s5, s6, s7, hkl, hid, hbl, hfl, hlt, kk, decide_eq_false he]
      rw [ForK_normal]
      exact ⟨hke, by simp (disch := first | (simp only [go_sem, Bool.and_self, eq_self]; done) | omega | (simp only [List.length_cons, List.length_nil]; omega)) only [go_sem, ↓reduceIte, Nat.reduceEqDiff, Nat.reduceAdd, Nat.reduceMul, Nat.reduceSub, Int.reduceToNat, s7], rfl, by simp (disch := first | (simp only [go_sem, Bool.and_self, eq_self]; done) | omega | (simp only [List.length_cons, List.length_nil]; omega)) only [go_sem, ↓reduceIte, Nat.reduceEqDiff, Nat.reduceAdd, Nat.reduceMul, Nat.reduceSub, Int.reduceToNat, s0], by simp (disch := first | (simp only [go_sem, Bool.and_self, eq_self]; done) | omega | (simp only [List.length_cons, List.length_nil]; omega)) only [go_sem, ↓reduceIte, Nat.reduceEqDiff, Nat.reduceAdd, Nat.reduceMul, Nat.reduceSub, Int.reduceToNat, s4], by simp (disch := first | (simp only [go_sem, Bool.and_self, eq_self]; done) | omega | (simp only [List.length_cons, List.length_nil]; omega)) only [go_sem, ↓reduceIte, Nat.reduceEqDiff, Nat.reduceAdd, Nat.reduceMul, Nat.reduceSub, Int.reduceToNat, s5], by simp (disch := first | (simp only [go_sem, Bool.and_self, eq_self]; done) | omega | (simp only [List.length_cons, List.length_nil]; omega)) only [go_sem, ↓reduceIte, Nat.reduceEqDiff, Nat.reduceAdd, Nat.reduceMul, Nat.reduceSub, Int.reduceToNat, s6]⟩
  rintro st g ⟨rfl, s0, s4, s5, s6, s7⟩
  by_cases hm : nth a i ∈ mrgO a i
  · have hne : ¬ idxR (mrgO a i) (nth a i) = (mrgO a i).length := by have := idxR_lt hm; omega
    have hbs := fun h : Hp => bsB_one (P := Try.prog) (h := h) 3 (I (idxR (mrgO a i) (nth a i))) (I (idxR (mrgO a i) (nth a i))) (I 0) h isz3 izero3 rfl rfl rfl rfl rfl rfl rfl
    have happ := app_one (P := Try.prog) how 3 8 (I 0) (idxR (mrgO a i) (nth a i) : Int) isz3 ibytes3 izero3 rfl (by omega) (by omega)
    simp (disch := first | (simp only [go_sem, Bool.and_self, eq_self]; done) | omega | (simp only [List.length_cons, List.length_nil]; omega)) only [go_sem, ↓reduceIte, Nat.reduceEqDiff, Nat.reduceAdd, Nat.reduceMul, Nat.reduceSub, Int.reduceToNat, s0, s4, s5, s6, s7, hlenv, hne, hbs, happ]
    rw [ForK_normal]
    refine ⟨hlt, by simp (disch := first | (simp only [go_sem, Bool.and_self, eq_self]; done) | omega | (simp only [List.length_cons, List.length_nil]; omega)) only [go_sem, ↓reduceIte, Nat.reduceEqDiff, Nat.reduceAdd, Nat.reduceMul, Nat.reduceSub, Int.reduceToNat, s6], by simp (disch := first | (simp only [go_sem, Bool.and_self, eq_self]; done) | omega | (simp only [List.length_cons, List.length_nil]; omega)) only [go_sem, ↓reduceIte, Nat.reduceEqDiff, Nat.reduceAdd, Nat.reduceMul, Nat.reduceSub, Int.reduceToNat, s0], v, _, by simp (disch := first | (simp only [go_sem, Bool.and_self, eq_self]; done) | omega | (simp only [List.length_cons, List.length_nil]; omega)) only [go_sem, ↓reduceIte, Nat.reduceEqDiff, Nat.reduceAdd, Nat.reduceMul, Nat.reduceSub, Int.reduceToNat, s4], by simp (disch := first | (simp only [go_sem, Bool.and_self, eq_self]; done) | omega | (simp only [List.length_cons, List.length_nil]; omega)) only [go_sem, ↓reduceIte, Nat.reduceEqDiff, Nat.reduceAdd, Nat.reduceMul, Nat.reduceSub, Int.reduceToNat]; rfl, ?_, ?_, ?_⟩
    · rw [mrgO, if_pos hm]; exact hov.keep hd.symm _
    · rw [mrgL_succ]; exact Own.app _ _ _
    · exact (hov.dis _ _).symm
  · have hidx := idxR_not hm
    have hrow := hrl i hlt
    have happ0 := app_nil (P := Try.prog) (h := g) (f := e1 I) 3 8 (I 0) (LI (nth a i)) (nth a i) isz3 ibytes3 izero3 rfl (cellsOf_L _ _) (lenA_L _ _) (by omega) (by omega)
    have hse : sealA (g.alloc (.cells false true ((nth a i).flatMap (e1 I)))) (.sl g.nx 0 (nth a i).length 1) = some (LI (nth a i), (g.alloc (.cells false true ((nth a i).flatMap (e1 I)))).put g.nx (some (.cells true true ((nth a i).flatMap (e1 I))))) := by
      simp (disch := first | (simp only [go_sem, Bool.and_self, eq_self]; done) | omega | (simp only [List.length_cons, List.length_nil]; omega)) only [go_sem, ↓reduceIte, Nat.reduceEqDiff, Nat.reduceAdd, Nat.reduceMul, Nat.reduceSub, Int.reduceToNat]
    have hbs1 := bsB_one (P := Try.prog) 27 _ (LI (nth a i)) .nil _ isz27 izero27 rfl rfl rfl hse rfl rfl (pure_L _)
    generalize hG : ((g.alloc (.cells false true ((nth a i).flatMap (e1 I)))).put g.nx (some (.cells true true ((nth a i).flatMap (e1 I))))) = G at *
    have hG2 : ∀ id, id < g.nx → G.bl id = g.bl id := by intro id hid; rw [← hG]; simp (disch := first | (simp only [go_sem, Bool.and_self, eq_self]; done) | omega | (simp only [List.length_cons, List.length_nil]; omega)) only [go_sem, ↓reduceIte, Nat.reduceEqDiff, Nat.reduceAdd, Nat.reduceMul, Nat.reduceSub, Int.reduceToNat, Nat.ne_of_lt hid]
    have hG3 : G.nx = g.nx + 1 := by rw [← hG]; simp (disch := first | (simp only [go_sem, Bool.and_self, eq_self]; done) | omega | (simp only [List.length_cons, List.length_nil]; omega)) only [go_sem, ↓reduceIte, Nat.reduceEqDiff, Nat.reduceAdd, Nat.reduceMul, Nat.reduceSub, Int.reduceToNat]
    have hovG := hov.mono (h' := G) (by omega) hG2
    have howG := how.mono (h' := G) (by omega) hG2
    have happ1 := app_one (P := Try.prog) hovG 27 24 .nil (nth a i) isz27 ibytes27 izero27 rfl (by omega) (by omega)
    have hbs := fun h : Hp => bsB_one (P := Try.prog) (h := h) 3 (I (mrgO a i).length) (I (mrgO a i).length) (I 0) h isz3 izero3 rfl rfl rfl rfl rfl rfl rfl
    have howG2 := howG.keep hd ((mrgO a i ++ [nth a i]).flatMap (e1 LI))
    have happ := app_one (P := Try.prog) howG2 3 8 (I 0) ((mrgO a i).length : Int) isz3 ibytes3 izero3 rfl (by omega) (by omega)
    simp (disch := first | (simp only [go_sem, Bool.and_self, eq_self]; done) | omega | (simp only [List.length_cons, List.length_nil]; omega)) only [go_sem, ↓reduceIte, Nat.reduceEqDiff, Nat.reduceAdd, Nat.reduceMul, Nat.reduceSub, Int.reduceToNat, s0, s4, s5, s6, s7, hlenv, hidx, hlt, happ0, hbs1, happ1, hbs, happ]
    rw [ForK_normal]
    refine ⟨hlt, by simp (disch := first | (simp only [go_sem, Bool.and_self, eq_self]; done) | omega | (simp only [List.length_cons, List.length_nil]; omega)) only [go_sem, ↓reduceIte, Nat.reduceEqDiff, Nat.reduceAdd, Nat.reduceMul, Nat.reduceSub, Int.reduceToNat, s6], by simp (disch := first | (simp only [go_sem, Bool.and_self, eq_self]; done) | omega | (simp only [List.length_cons, List.length_nil]; omega)) only [go_sem, ↓reduceIte, Nat.reduceEqDiff, Nat.reduceAdd, Nat.reduceMul, Nat.reduceSub, Int.reduceToNat, s0], _, _, by simp (disch := first | (simp only [go_sem, Bool.and_self, eq_self]; done) | omega | (simp only [List.length_cons, List.length_nil]; omega)) only [go_sem, ↓reduceIte, Nat.reduceEqDiff, Nat.reduceAdd, Nat.reduceMul, Nat.reduceSub, Int.reduceToNat]; rfl, by simp (disch := first | (simp only [go_sem, Bool.and_self, eq_self]; done) | omega | (simp only [List.length_cons, List.length_nil]; omega)) only [go_sem, ↓reduceIte, Nat.reduceEqDiff, Nat.reduceAdd, Nat.reduceMul, Nat.reduceSub, Int.reduceToNat]; rfl, ?_, ?_, ?_⟩
    · rw [mrgO, if_neg hm]
      exact (Own.app G v (mrgO a i ++ [nth a i])).keep (howG.dis _ _).symm _
    · rw [mrgL_succ, hidx]; exact Own.app _ _ _
    · exact ((Own.app G v (mrgO a i ++ [nth a i])).dis _ _).symm
theorem k30 (a : List (List Int)) (hp : isPlanB a = true) : ConW Try.prog cfg 30 h (some ([LLI a], h')) K = K (.tup [LLI (mrgO a a.length), LI (mrgL a a.length)]) h' := by
  rw [ConW_any (f30_con a hp) rfl, importR_two rfl rfl]

theorem f8_con (acc : List (List Int)) (ha : okLL acc) : Con Try.prog cfg 8 [LLI acc] (.bool true) := by
  have m1 := fun h h' K => k19 (h := h) (h' := h') (K := K) acc ha
  have ha' : okLL (tableM acc) := by
    refine ⟨by simp [tableM]; omega, fun r hr => ?_⟩
    simp only [tableM, List.mem_map] at hr
    obtain ⟨i, _, rfl⟩ := hr
    rw [tableRow, List.length_take]; omega
  generalize tableM acc = a at m1 ha'
  have m2 := fun h h' K => k29 (h := h) (h' := h') (K := K) a ha'
  have m3 := fun h h' K => k21 (h := h) (h' := h') (K := K) a ha'
  refine Con_intro Try.func8 rfl ok8 (Nat.le_of_ble_eq_true rfl) rfl ?_
  simp only [Try.f8, Option.getD_some, initSt1]
  cases hp : isPlanB a with
  | false => simp (disch := first | (simp only [go_sem, Bool.and_self, eq_self]; done) | omega | (simp only [List.length_cons, List.length_nil]; omega)) only [go_sem, ↓reduceIte, Nat.reduceEqDiff, Nat.reduceAdd, Nat.reduceMul, Nat.reduceSub, Int.reduceToNat, m1, m2, m3, hp, List.length_nil, Int.natCast_zero]
  | true =>
    have m4 := fun h h' K => k30 (h := h) (h' := h') (K := K) a hp
    have hpl := hp
    simp only [isPlanB, Bool.and_eq_true, decide_eq_true_eq] at hpl
    have hml := mrgO_len a a.length
    have hok : okLL (mrgO a a.length) := ⟨by omega, fun r hr => by
      obtain ⟨i, hi, rfl⟩ := mrgO_mem hr
      exact ha'.row hi⟩
    have m5 := fun h h' K => k31 (h := h) (h' := h') (K := K) (mrgO a a.length) (mrgO a a.length) hok
    have m6 := fun h h' K => k16 (h := h) (h' := h') (K := K) (mrgL a a.length) (mrgL a a.length) (by rw [mrgL_len]; omega)
    simp (disch := first | (simp only [go_sem, Bool.and_self, eq_self]; done) | omega | (simp only [List.length_cons, List.length_nil]; omega)) only [go_sem, ↓reduceIte, Nat.reduceEqDiff, Nat.reduceAdd, Nat.reduceMul, Nat.reduceSub, Int.reduceToNat, m1, m2, m3, m4, m5, m6, hp, eq_self]
end Go.Proofs.Ytkjdnnedncomgaa
