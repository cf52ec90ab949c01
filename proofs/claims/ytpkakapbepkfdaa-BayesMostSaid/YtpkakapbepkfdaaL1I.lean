/-
  facts: a map from variables to values.
-/
import Derived.Test.YtpkakapbepkfdaaL1H
set_option linter.unusedVariables false
set_option linter.unusedSimpArgs false
set_option maxRecDepth 10000
namespace Go.Proofs.Ytpkakapbepkfdaa
open Go Go.Am

variable {h h' : Hp} {K : AV → Hp → Prop}

abbrev LP (fs : List (Int × Int)) : AV := L eP fs
def factB (n : Int) (fs : List (Int × Int)) (i : Nat) : Bool := inB (nth fs i).1 0 (n - 1) && inB (nth fs i).2 0 1 && (List.range i).all fun j => !((nth fs j).1 == (nth fs i).1)
def factsB (n : Int) (fs : List (Int × Int)) : Bool := (List.range fs.length).all (factB n fs)
def entF (fs : List (Int × Int)) : List (Int × AV) := fs.map fun f => (f.1, I f.2)
theorem ent_take {fs : List (Int × Int)} {i : Nat} (hi : i < fs.length) : entF (fs.take (i + 1)) = entF (fs.take i) ++ [((nth fs i).1, I (nth fs i).2)] := by
  rw [entF, entF, List.take_add_one, List.map_append, nth_get hi]; rfl
theorem ent_none {fs : List (Int × Int)} {i : Nat} {k : Int} (hi : i ≤ fs.length) (h : ∀ j, j < i → (nth fs j).1 ≠ k) : ∀ p ∈ entF (fs.take i), p.1 ≠ k := by
  intro p hp
  obtain ⟨f, hf, rfl⟩ := List.mem_map.1 hp
  obtain ⟨j, hj, rfl⟩ := List.getElem_of_mem hf
  rw [List.length_take] at hj
  rw [List.getElem_take, ← nth_getElem (by omega)]
  exact h j (by omega)
theorem findK_some {es : List (Int × AV)} {k : Int} (h : ∃ p ∈ es, p.1 = k) : (findK k es).isSome = true := by
  induction es with
  | nil => obtain ⟨p, hp, _⟩ := h; cases hp
  | cons q es ih =>
    obtain ⟨j, v⟩ := q
    simp only [findK]
    split
    · rfl
    · rename_i hne
      obtain ⟨p, hp, hk⟩ := h
      rcases List.mem_cons.1 hp with rfl | hp
      · exact absurd hk.symm hne
      · exact ih ⟨p, hp, hk⟩
theorem loadC_eP (e : TypeId) (f : Int × Int) : loadC (some (.array 2 e)) (some 2) (some (eP f, 0)) = some (.agg [I f.1, I f.2]) := loadC_arr2 2 e _ _

theorem f54_shr (p t : List (List Int)) (n : Int) (hn : 1 ≤ n ∧ n ≤ 10) (fs : List (Int × Int)) (hf : fs.length ≤ maxLen) (H : Hp) : ∃ v h', Shr Try.prog cfg 54 [.agg [LLI p, LLI t, I n], LP fs] H v h' ∧
    (H.nx ≤ h'.nx ∧ (∀ id, id < H.nx → h'.bl id = H.bl id) ∧
      ((factsB n fs = true ∧ v = .tup [.mp (H.nx + 1), .bool true] ∧ H.nx + 1 < h'.nx ∧ h'.bl (H.nx + 1) = some (.mp false (entF fs))) ∨ (factsB n fs = false ∧ v = .tup [.nilmp, .bool false]))) := by
  have ml : maxLen = 9223372036854775807 := by decide
  refine Shr_intro Try.func54 rfl ok54 (Nat.le_of_ble_eq_true rfl) ?_
  simp only [Try.f54, Option.getD_some, initSt2]
  simp (disch := first | (simp only [go_sem, Bool.and_self, eq_self]; done) | omega | (simp only [List.length_cons, List.length_nil]; omega)) only [go_sem, ↓reduceIte, Nat.reduceEqDiff, Nat.reduceAdd, Nat.reduceMul, Nat.reduceSub, Int.reduceToNat, Nat.reduceBEq, List.size_toArray, List.length_cons, List.length_nil, Bool.false_and, Bool.true_and, Bool.or_false, Bool.false_or, Bool.and_false, Bool.and_true]
  refine WP_for 14 fs.length (fun i st h => st 2 = .ptr H.nx 0 ∧ st 4 = .nilmp ∧ st 5 = .bool false ∧ st 6 = .mp (H.nx + 1) ∧ st 12 = LP fs ∧ st 13 = I fs.length ∧ H.nx + 2 ≤ h.nx ∧ (∀ id, id < H.nx → h.bl id = H.bl id) ∧ h.bl H.nx = some (.cells false false [LLI p, LLI t, I n]) ∧ h.bl (H.nx + 1) = some (.mp false (entF (fs.take i))) ∧ ∀ j, j < i → factB n fs j = true) (by simp (disch := first | (simp only [go_sem, Bool.and_self, eq_self]; done) | omega | (simp only [List.length_cons, List.length_nil]; omega)) only [go_sem, ↓reduceIte, Nat.reduceEqDiff, Nat.reduceAdd, Nat.reduceMul, Nat.reduceSub, Int.reduceToNat, Nat.reduceBEq, List.size_toArray, List.length_cons, List.length_nil, Bool.false_and, Bool.true_and, Bool.or_false, Bool.false_or, Bool.and_false, Bool.and_true]) ⟨by simp (disch := first | (simp only [go_sem, Bool.and_self, eq_self]; done) | omega | (simp only [List.length_cons, List.length_nil]; omega)) only [go_sem, ↓reduceIte, Nat.reduceEqDiff, Nat.reduceAdd, Nat.reduceMul, Nat.reduceSub, Int.reduceToNat, Nat.reduceBEq, List.size_toArray, List.length_cons, List.length_nil, Bool.false_and, Bool.true_and, Bool.or_false, Bool.false_or, Bool.and_false, Bool.and_true], by simp (disch := first | (simp only [go_sem, Bool.and_self, eq_self]; done) | omega | (simp only [List.length_cons, List.length_nil]; omega)) only [go_sem, ↓reduceIte, Nat.reduceEqDiff, Nat.reduceAdd, Nat.reduceMul, Nat.reduceSub, Int.reduceToNat, Nat.reduceBEq, List.size_toArray, List.length_cons, List.length_nil, Bool.false_and, Bool.true_and, Bool.or_false, Bool.false_or, Bool.and_false, Bool.and_true], by simp (disch := first | (simp only [go_sem, Bool.and_self, eq_self]; done) | omega | (simp only [List.length_cons, List.length_nil]; omega)) only [go_sem, ↓reduceIte, Nat.reduceEqDiff, Nat.reduceAdd, Nat.reduceMul, Nat.reduceSub, Int.reduceToNat, Nat.reduceBEq, List.size_toArray, List.length_cons, List.length_nil, Bool.false_and, Bool.true_and, Bool.or_false, Bool.false_or, Bool.and_false, Bool.and_true], by simp (disch := first | (simp only [go_sem, Bool.and_self, eq_self]; done) | omega | (simp only [List.length_cons, List.length_nil]; omega)) only [go_sem, ↓reduceIte, Nat.reduceEqDiff, Nat.reduceAdd, Nat.reduceMul, Nat.reduceSub, Int.reduceToNat, Nat.reduceBEq, List.size_toArray, List.length_cons, List.length_nil, Bool.false_and, Bool.true_and, Bool.or_false, Bool.false_or, Bool.and_false, Bool.and_true], by simp (disch := first | (simp only [go_sem, Bool.and_self, eq_self]; done) | omega | (simp only [List.length_cons, List.length_nil]; omega)) only [go_sem, ↓reduceIte, Nat.reduceEqDiff, Nat.reduceAdd, Nat.reduceMul, Nat.reduceSub, Int.reduceToNat, Nat.reduceBEq, List.size_toArray, List.length_cons, List.length_nil, Bool.false_and, Bool.true_and, Bool.or_false, Bool.false_or, Bool.and_false, Bool.and_true], by simp (disch := first | (simp only [go_sem, Bool.and_self, eq_self]; done) | omega | (simp only [List.length_cons, List.length_nil]; omega)) only [go_sem, ↓reduceIte, Nat.reduceEqDiff, Nat.reduceAdd, Nat.reduceMul, Nat.reduceSub, Int.reduceToNat, Nat.reduceBEq, List.size_toArray, List.length_cons, List.length_nil, Bool.false_and, Bool.true_and, Bool.or_false, Bool.false_or, Bool.and_false, Bool.and_true], ?_, ?_, ?_, ?_, by omega⟩ ?_
  · simp (disch := first | (simp only [go_sem, Bool.and_self, eq_self]; done) | omega | (simp only [List.length_cons, List.length_nil]; omega)) only [go_sem, ↓reduceIte, Nat.reduceEqDiff, Nat.reduceAdd, Nat.reduceMul, Nat.reduceSub, Int.reduceToNat, Nat.reduceBEq, List.size_toArray, List.length_cons, List.length_nil, Bool.false_and, Bool.true_and, Bool.or_false, Bool.false_or, Bool.and_false, Bool.and_true]; omega
  · intro id hid; simp (disch := first | (simp only [go_sem, Bool.and_self, eq_self]; done) | omega | (simp only [List.length_cons, List.length_nil]; omega)) only [go_sem, ↓reduceIte, Nat.reduceEqDiff, Nat.reduceAdd, Nat.reduceMul, Nat.reduceSub, Int.reduceToNat, Nat.reduceBEq, List.size_toArray, List.length_cons, List.length_nil, Bool.false_and, Bool.true_and, Bool.or_false, Bool.false_or, Bool.and_false, Bool.and_true]; simp [show id ≠ H.nx + 1 by omega, show id ≠ H.nx by omega]
  · simp (disch := first | (simp only [go_sem, Bool.and_self, eq_self]; done) | omega | (simp only [List.length_cons, List.length_nil]; omega)) only [go_sem, ↓reduceIte, Nat.reduceEqDiff, Nat.reduceAdd, Nat.reduceMul, Nat.reduceSub, Int.reduceToNat, Nat.reduceBEq, List.size_toArray, List.length_cons, List.length_nil, Bool.false_and, Bool.true_and, Bool.or_false, Bool.false_or, Bool.and_false, Bool.and_true]; simp
  · simp (disch := first | (simp only [go_sem, Bool.and_self, eq_self]; done) | omega | (simp only [List.length_cons, List.length_nil]; omega)) only [go_sem, ↓reduceIte, Nat.reduceEqDiff, Nat.reduceAdd, Nat.reduceMul, Nat.reduceSub, Int.reduceToNat, Nat.reduceBEq, List.size_toArray, List.length_cons, List.length_nil, Bool.false_and, Bool.true_and, Bool.or_false, Bool.false_or, Bool.and_false, Bool.and_true]; rfl
  rintro i st h hi s14 ⟨s2, s4, s5, s6, s12, s13, bn, bf, b0, b1, hg⟩
  by_cases hlt : i < fs.length
  case neg =>
    have hii : i = fs.length := by omega
    have hfa : factsB n fs = true := all_range fun j hj => hg j (by omega)
    have hft : fs.take i = fs := by rw [hii]; exact List.take_length
    rw [hft] at b1
    simp (disch := first | (simp only [go_sem, Bool.and_self, eq_self]; done) | omega | (simp only [List.length_cons, List.length_nil]; omega)) only [go_sem, ↓reduceIte, Nat.reduceEqDiff, Nat.reduceAdd, Nat.reduceMul, Nat.reduceSub, Int.reduceToNat, Nat.reduceBEq, List.size_toArray, List.length_cons, List.length_nil, Bool.false_and, Bool.true_and, Bool.or_false, Bool.false_or, Bool.and_false, Bool.and_true, s2, s4, s5, s6, s12, s13, s14, b0, b1, hlt]
    exact ⟨by omega, bf, .inl ⟨hfa, by omega⟩⟩
  have bad : factB n fs i = false → factsB n fs = false := fun h => not_all_range hlt h
  have hld := loadC_eP 3 (nth fs i)
  have hal : ∀ g : Hp, allocB g (some (.agg [I 0, I 0])) = some (.ptr g.nx 0, g.alloc (.cells false false [I 0, I 0])) := fun g => allocB_agg _ rfl
  have e0 : ¬ H.nx = h.nx := by omega
  have e2 : ¬ H.nx + 1 = h.nx := by omega
  by_cases hdup : ∃ j, j < i ∧ (nth fs j).1 = (nth fs i).1
  · obtain ⟨j, hj, hje⟩ := hdup
    have q := bad (by
      simp only [factB, not_all_range (f := fun j => !((nth fs j).1 == (nth fs i).1)) hj (by simp [hje]), Bool.and_false])
    have hfk : (findK (nth fs i).1 (entF (fs.take i))).isSome = true := findK_some ⟨((nth fs j).1, I (nth fs j).2), by
      rw [entF, List.mem_map]
      refine ⟨nth fs j, ?_, rfl⟩
      rw [List.mem_take_iff_getElem]
      exact ⟨j, by omega, (nth_getElem (by omega)).symm⟩, hje⟩
    have hlk := lookB_one 3 3 .i64 (I 0) (H.nx + 1) false (entF (fs.take i)) (nth fs i).1 true rfl
    rw [hfk] at hlk
    simp (disch := first | (simp only [go_sem, Bool.and_self, eq_self]; done) | omega | (simp only [List.length_cons, List.length_nil]; omega)) only [go_sem, ↓reduceIte, Nat.reduceEqDiff, Nat.reduceAdd, Nat.reduceMul, Nat.reduceSub, Int.reduceToNat, Nat.reduceBEq, List.size_toArray, List.length_cons, List.length_nil, Bool.false_and, Bool.true_and, Bool.or_false, Bool.false_or, Bool.and_false, Bool.and_true, s2, s4, s5, s6, s12, s13, s14, b0, b1, hlt, hld, hal, e0, e2, hlk]
    refine ⟨by omega, fun id hid => ?_, .inr q⟩
    rw [← bf id hid]; simp [show id ≠ h.nx by omega]
  have hnd : ∀ j, j < i → (nth fs j).1 ≠ (nth fs i).1 := fun j hj he => hdup ⟨j, hj, he⟩
  have hno := ent_none (by omega) hnd
  have hlk : lookB (some (.map 3 3)) (some (.int .i64)) (some (I 0)) (.mp (H.nx + 1)) (some (.mp false (entF (fs.take i)))) true (I (nth fs i).1) true = some (.tup [I 0, .bool false]) := by
    rw [lookB_one _ _ _ _ _ _ _ _ _ rfl, findK_none hno]; rfl
  cases h5 : inB (nth fs i).1 0 (n - 1) with
  | false =>
    have q := bad (by simp only [factB, h5, Bool.false_and])
    simp (disch := first | (simp only [go_sem, Bool.and_self, eq_self]; done) | omega | (simp only [List.length_cons, List.length_nil]; omega)) only [go_sem, ↓reduceIte, Nat.reduceEqDiff, Nat.reduceAdd, Nat.reduceMul, Nat.reduceSub, Int.reduceToNat, Nat.reduceBEq, List.size_toArray, List.length_cons, List.length_nil, Bool.false_and, Bool.true_and, Bool.or_false, Bool.false_or, Bool.and_false, Bool.and_true, s2, s4, s5, s6, s12, s13, s14, b0, b1, hlt, hld, hal, e0, e2, hlk, h5]
    refine ⟨by omega, fun id hid => ?_, .inr q⟩
    rw [← bf id hid]; simp [show id ≠ h.nx by omega]
  | true =>
  cases h6 : inB (nth fs i).2 0 1 with
  | false =>
    have q := bad (by simp only [factB, h6, Bool.false_and, Bool.and_false])
    simp (disch := first | (simp only [go_sem, Bool.and_self, eq_self]; done) | omega | (simp only [List.length_cons, List.length_nil]; omega)) only [go_sem, ↓reduceIte, Nat.reduceEqDiff, Nat.reduceAdd, Nat.reduceMul, Nat.reduceSub, Int.reduceToNat, Nat.reduceBEq, List.size_toArray, List.length_cons, List.length_nil, Bool.false_and, Bool.true_and, Bool.or_false, Bool.false_or, Bool.and_false, Bool.and_true, s2, s4, s5, s6, s12, s13, s14, b0, b1, hlt, hld, hal, e0, e2, hlk, h5, h6]
    refine ⟨by omega, fun id hid => ?_, .inr q⟩
    rw [← bf id hid]; simp [show id ≠ h.nx by omega]
  | true =>
  have hgi : factB n fs i = true := by
    simp only [factB, h5, h6, Bool.true_and]
    exact all_range fun j hj => by simp [hnd j hj]
  have hpk := putK_none (x := I (nth fs i).2) hno
  rw [← ent_take hlt] at hpk
  simp (disch := first | (simp only [go_sem, Bool.and_self, eq_self]; done) | omega | (simp only [List.length_cons, List.length_nil]; omega)) only [go_sem, ↓reduceIte, Nat.reduceEqDiff, Nat.reduceAdd, Nat.reduceMul, Nat.reduceSub, Int.reduceToNat, Nat.reduceBEq, List.size_toArray, List.length_cons, List.length_nil, Bool.false_and, Bool.true_and, Bool.or_false, Bool.false_or, Bool.and_false, Bool.and_true, s2, s4, s5, s6, s12, s13, s14, b0, b1, hlt, hld, hal, e0, e2, hlk, h5, h6, hpk]
  rw [ForK_normal]
  refine ⟨hlt, by simp (disch := first | (simp only [go_sem, Bool.and_self, eq_self]; done) | omega | (simp only [List.length_cons, List.length_nil]; omega)) only [go_sem, ↓reduceIte, Nat.reduceEqDiff, Nat.reduceAdd, Nat.reduceMul, Nat.reduceSub, Int.reduceToNat, Nat.reduceBEq, List.size_toArray, List.length_cons, List.length_nil, Bool.false_and, Bool.true_and, Bool.or_false, Bool.false_or, Bool.and_false, Bool.and_true, s14], by simp (disch := first | (simp only [go_sem, Bool.and_self, eq_self]; done) | omega | (simp only [List.length_cons, List.length_nil]; omega)) only [go_sem, ↓reduceIte, Nat.reduceEqDiff, Nat.reduceAdd, Nat.reduceMul, Nat.reduceSub, Int.reduceToNat, Nat.reduceBEq, List.size_toArray, List.length_cons, List.length_nil, Bool.false_and, Bool.true_and, Bool.or_false, Bool.false_or, Bool.and_false, Bool.and_true, s2], by simp (disch := first | (simp only [go_sem, Bool.and_self, eq_self]; done) | omega | (simp only [List.length_cons, List.length_nil]; omega)) only [go_sem, ↓reduceIte, Nat.reduceEqDiff, Nat.reduceAdd, Nat.reduceMul, Nat.reduceSub, Int.reduceToNat, Nat.reduceBEq, List.size_toArray, List.length_cons, List.length_nil, Bool.false_and, Bool.true_and, Bool.or_false, Bool.false_or, Bool.and_false, Bool.and_true, s4], by simp (disch := first | (simp only [go_sem, Bool.and_self, eq_self]; done) | omega | (simp only [List.length_cons, List.length_nil]; omega)) only [go_sem, ↓reduceIte, Nat.reduceEqDiff, Nat.reduceAdd, Nat.reduceMul, Nat.reduceSub, Int.reduceToNat, Nat.reduceBEq, List.size_toArray, List.length_cons, List.length_nil, Bool.false_and, Bool.true_and, Bool.or_false, Bool.false_or, Bool.and_false, Bool.and_true, s5], by simp (disch := first | (simp only [go_sem, Bool.and_self, eq_self]; done) | omega | (simp only [List.length_cons, List.length_nil]; omega)) only [go_sem, ↓reduceIte, Nat.reduceEqDiff, Nat.reduceAdd, Nat.reduceMul, Nat.reduceSub, Int.reduceToNat, Nat.reduceBEq, List.size_toArray, List.length_cons, List.length_nil, Bool.false_and, Bool.true_and, Bool.or_false, Bool.false_or, Bool.and_false, Bool.and_true, s6], by simp (disch := first | (simp only [go_sem, Bool.and_self, eq_self]; done) | omega | (simp only [List.length_cons, List.length_nil]; omega)) only [go_sem, ↓reduceIte, Nat.reduceEqDiff, Nat.reduceAdd, Nat.reduceMul, Nat.reduceSub, Int.reduceToNat, Nat.reduceBEq, List.size_toArray, List.length_cons, List.length_nil, Bool.false_and, Bool.true_and, Bool.or_false, Bool.false_or, Bool.and_false, Bool.and_true, s12], by simp (disch := first | (simp only [go_sem, Bool.and_self, eq_self]; done) | omega | (simp only [List.length_cons, List.length_nil]; omega)) only [go_sem, ↓reduceIte, Nat.reduceEqDiff, Nat.reduceAdd, Nat.reduceMul, Nat.reduceSub, Int.reduceToNat, Nat.reduceBEq, List.size_toArray, List.length_cons, List.length_nil, Bool.false_and, Bool.true_and, Bool.or_false, Bool.false_or, Bool.and_false, Bool.and_true, s13], ?_, fun id hid => ?_, ?_, ?_, fun j hj => ?_⟩
  · simp (disch := first | (simp only [go_sem, Bool.and_self, eq_self]; done) | omega | (simp only [List.length_cons, List.length_nil]; omega)) only [go_sem, ↓reduceIte, Nat.reduceEqDiff, Nat.reduceAdd, Nat.reduceMul, Nat.reduceSub, Int.reduceToNat, Nat.reduceBEq, List.size_toArray, List.length_cons, List.length_nil, Bool.false_and, Bool.true_and, Bool.or_false, Bool.false_or, Bool.and_false, Bool.and_true]; omega
  · rw [← bf id hid]; simp [show id ≠ h.nx by omega, show id ≠ H.nx + 1 by omega, Hp.put, Hp.alloc]
  · simp [Hp.put, Hp.alloc, show H.nx ≠ h.nx by omega, b0]
  · simp [Hp.put, Hp.alloc]
  · rcases Nat.lt_or_ge j i with h | h
    · exact hg j h
    · rw [show j = i by omega]; exact hgi

end Go.Proofs.Ytpkakapbepkfdaa
