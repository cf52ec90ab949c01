/-
  'BayesJoints' answers true.
-/
import Derived.Test.YtpkakapbepkfdaaL1M
set_option linter.unusedVariables false
set_option linter.unusedSimpArgs false
set_option maxRecDepth 10000
namespace Go.Proofs.Ytpkakapbepkfdaa
open Go Go.Am

variable {h h' : Hp} {K : AV → Hp → Prop}

theorem take_le {α : Type} (v : List α) (n : Nat) : (v.take n).length ≤ v.length := by rw [List.length_take]; omega
theorem listM_len (v : List Int) : (listM v).length ≤ 20 := by rw [listM, List.length_take]; omega
theorem tableM_ok (a : List (List Int)) : okLL (tableM a) := by
  have ml : maxLen = 9223372036854775807 := by decide
  refine ⟨by simp [tableM]; omega, fun r hr => ?_⟩
  obtain ⟨i, _, rfl⟩ := List.mem_map.1 hr
  have := listM_len (nth a i)
  unfold tableRow; omega

theorem f18_nil (v : List Int) (hv : v.length ≤ maxLen) : Con Try.prog cfg 18 [.agg [.nil, .nil], LI v] (.tup [.agg [I 0, I 0], I 2]) := by
  have n20 : ¬ (2 : Int) = 0 := by decide
  have k46n : Con Try.prog cfg 46 [.agg [.nil, .nil]] (.tup [.agg [.nil, .nil, I 0], I 2]) := ⟨100, by kernel_rfl⟩
  have kn := fun h h' K => ConW_any (h := h) (h' := h') (K := K) k46n rfl
  have hi : ∀ h : Hp, importR h (.tup [.agg [.nil, .nil, I 0], I 2]) = (.tup [.agg [.nil, .nil, I 0], I 2], h) := fun _ => rfl
  have hs : ∀ h : Hp, sealA h (.agg [.nil, .nil]) = some (.agg [.nil, .nil], h) := fun _ => rfl
  refine Con_intro Try.func18 rfl ok18 (Nat.le_of_ble_eq_true rfl) rfl ?_
  simp only [Try.f18, Option.getD_some, initSt2]
  simp (disch := first | (simp only [go_sem, Bool.and_self, eq_self]; done) | omega | (simp only [List.length_cons, List.length_nil]; omega)) only [go_sem, ↓reduceIte, Nat.reduceEqDiff, Nat.reduceAdd, Nat.reduceMul, Nat.reduceSub, Int.reduceToNat, Nat.reduceBEq, List.size_toArray, List.length_cons, List.length_nil, Bool.false_and, Bool.true_and, Bool.or_false, Bool.false_or, Bool.and_false, Bool.and_true, kn, hi, n20, hs]
theorem f19_nil : Con Try.prog cfg 19 [.agg [.nil, .nil]] (.bool false) := ⟨100, by kernel_rfl⟩
theorem netV_cons {p t : List (List Int)} (h : ¬ (p = [] ∧ t = [])) : netV p t = .agg [LLI p, LLI t] := by rw [netV, if_neg h]
theorem netV_nil : netV [] [] = .agg [.nil, .nil] := rfl

theorem f3_con (p t : List (List Int)) (v : List Int) (hp : okLL p) (ht : okLL t) (hv : v.length ≤ maxLen) : Con Try.prog cfgX 3 [.agg [LLI p, LLI t], LI v] (.bool true) := by
  have ml : maxLen = 9223372036854775807 := by decide
  have k16 := fun h h' K => ConW_any (h := h) (h' := h') (K := K) (lift (by decide) (f16_con p t hp ht)) (by unfold netV; split <;> rfl)
  have hlv : (listM v).length ≤ maxLen := by have := listM_len v; omega
  have k17' := fun h h' K => ConW_any (h := h) (h' := h') (K := K) (lift (by decide) (f17_con v hv)) rfl
  have n20 : ¬ (2 : Int) = 0 := by decide
  have okp := tableM_ok p
  have okt := tableM_ok t
  generalize listM v = w at *
  generalize tableM p = p' at *
  generalize tableM t = t' at *
  by_cases hnil : p' = [] ∧ t' = []
  · obtain ⟨rfl, rfl⟩ := hnil
    rw [netV_nil] at k16
    have k18 := fun h h' K => ConW_num (h := h) (h' := h') (K := K) (lift (by decide) (f18_nil w hlv)) rfl
    have k19 := fun h h' K => ConW_num (h := h) (h' := h') (K := K) (lift (by decide) f19_nil) rfl
    have hi : ∀ h : Hp, importR h (.agg [.nil, .nil]) = (.agg [.nil, .nil], h) := fun _ => rfl
    have hs : ∀ h : Hp, sealA h (.agg [.nil, .nil]) = some (.agg [.nil, .nil], h) := fun _ => rfl
    refine Con_intro Try.func3 rfl okX3 (Nat.le_of_ble_eq_true rfl) rfl ?_
    simp only [Try.f3, Option.getD_some, initSt2]
    simp (disch := first | (simp only [go_sem, Bool.and_self, eq_self]; done) | omega | (simp only [List.length_cons, List.length_nil]; omega)) only [go_sem, ↓reduceIte, Nat.reduceEqDiff, Nat.reduceAdd, Nat.reduceMul, Nat.reduceSub, Int.reduceToNat, Nat.reduceBEq, List.size_toArray, List.length_cons, List.length_nil, Bool.false_and, Bool.true_and, Bool.or_false, Bool.false_or, Bool.and_false, Bool.and_true, k16, k17', k18, k19, hi, hs]
  · rw [netV_cons hnil] at k16
    have hi : ∀ h : Hp, importR h (.agg [LLI p', LLI t']) = (.agg [LLI p', LLI t'], h) := fun _ => rfl
    have kj := fun h h' K => ConW_num (h := h) (h' := h') (K := K) (lift (by decide) (f18_con p' t' w okp okt hlv)) (by unfold jointR; split <;> rfl)
    have kr := fun h h' K => ConW_num (h := h) (h' := h') (K := K) (lift (by decide) (f19_con p' t' okp okt)) rfl
    cases h1 : netB p' t' with
    | false =>
      have hj : jointR p' t' w = .tup [.agg [I 0, I 0], I 2] := by simp [jointR, h1]
      rw [hj] at kj
      refine Con_intro Try.func3 rfl okX3 (Nat.le_of_ble_eq_true rfl) rfl ?_
      simp only [Try.f3, Option.getD_some, initSt2]
      simp (disch := first | (simp only [go_sem, Bool.and_self, eq_self]; done) | omega | (simp only [List.length_cons, List.length_nil]; omega)) only [go_sem, ↓reduceIte, Nat.reduceEqDiff, Nat.reduceAdd, Nat.reduceMul, Nat.reduceSub, Int.reduceToNat, Nat.reduceBEq, List.size_toArray, List.length_cons, List.length_nil, Bool.false_and, Bool.true_and, Bool.or_false, Bool.false_or, Bool.and_false, Bool.and_true, k16, k17', kj, kr, h1, hi]
    | true =>
    have N := Net.of h1
    have kf := fun h h' K => ConW_num (h := h) (h' := h') (K := K) (lift (by decide) (f21_con p' t' N w hlv)) (by unfold refJ; split <;> rfl)
    cases h2 : rowOkB p' w with
    | false =>
      have hj : jointR p' t' w = .tup [.agg [I 0, I 0], I 2] := by simp [jointR, h2]
      have hf : refJ p' t' w = .tup [.agg [I 0, I 0], .bool false] := by simp [refJ, h2]
      rw [hj] at kj
      rw [hf] at kf
      refine Con_intro Try.func3 rfl okX3 (Nat.le_of_ble_eq_true rfl) rfl ?_
      simp only [Try.f3, Option.getD_some, initSt2]
      simp (disch := first | (simp only [go_sem, Bool.and_self, eq_self]; done) | omega | (simp only [List.length_cons, List.length_nil]; omega)) only [go_sem, ↓reduceIte, Nat.reduceEqDiff, Nat.reduceAdd, Nat.reduceMul, Nat.reduceSub, Int.reduceToNat, Nat.reduceBEq, List.size_toArray, List.length_cons, List.length_nil, Bool.false_and, Bool.true_and, Bool.or_false, Bool.false_or, Bool.and_false, Bool.and_true, k16, k17', kj, kr, kf, h1, hi]
    | true =>
      have hj : jointR p' t' w = .tup [redu (weightB p' t' w p'.length) (16 ^ p'.length), I 0] := by simp only [jointR, h1, h2, Bool.and_self, if_true, weight_ten N h2]
      have hf : refJ p' t' w = .tup [redu (weightB p' t' w p'.length) (16 ^ p'.length), .bool true] := by simp only [refJ, h2, if_true]
      rw [hj] at kj
      rw [hf] at kf
      refine Con_intro Try.func3 rfl okX3 (Nat.le_of_ble_eq_true rfl) rfl ?_
      simp only [Try.f3, Option.getD_some, initSt2]
      simp (disch := first | (simp only [go_sem, Bool.and_self, eq_self]; done) | omega | (simp only [List.length_cons, List.length_nil]; omega)) only [go_sem, ↓reduceIte, Nat.reduceEqDiff, Nat.reduceAdd, Nat.reduceMul, Nat.reduceSub, Int.reduceToNat, Nat.reduceBEq, List.size_toArray, List.length_cons, List.length_nil, Bool.false_and, Bool.true_and, Bool.or_false, Bool.false_or, Bool.and_false, Bool.and_true, k16, k17', kj, kr, kf, h1, hi]

end Go.Proofs.Ytpkakapbepkfdaa
