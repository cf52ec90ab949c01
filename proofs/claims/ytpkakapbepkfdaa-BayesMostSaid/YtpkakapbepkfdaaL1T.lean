/-
  'BayesChances' answers true.
-/
import Derived.Test.YtpkakapbepkfdaaL1O
set_option linter.unusedVariables false
set_option linter.unusedSimpArgs false
set_option maxRecDepth 10000
namespace Go.Proofs.Ytpkakapbepkfdaa
open Go Go.Am

variable {h h' : Hp} {K : AV → Hp → Prop}

def factM (fs : List (Int × Int)) : List (Int × Int) := fs.take (min fs.length 20)
theorem factM_len (fs : List (Int × Int)) : (factM fs).length ≤ 20 := by rw [factM, List.length_take]; omega
theorem f22_con (fs : List (Int × Int)) (hf : fs.length ≤ maxLen) : Con Try.prog cfgX 22 [LP fs] (LP (factM fs)) := by
  have ml : maxLen = 9223372036854775807 := by decide
  have hmin : min (fs.length : Int) 20 = ((min fs.length 20 : Nat) : Int) := by omega
  have htl : (factM fs).length = min fs.length 20 := by rw [factM, List.length_take]; omega
  have hrow : fs.take (min fs.length 20) = factM fs := rfl
  have happ1 := fun h => app_nil (P := Try.prog) (h := h) (f := eP) 46 16 (.agg [I 0, I 0]) (LP (factM fs)) (factM fs) isz46 ibytes46 izero46 rfl (cellsOf_L _ _) (lenA_L _ _) (by omega) (by omega)
  refine Con_intro Try.func22 rfl okX22 (Nat.le_of_ble_eq_true rfl) rfl ?_
  simp only [Try.f22, Option.getD_some, initSt1]
  simp (disch := first | (simp only [go_sem, Bool.and_self, eq_self]; done) | omega | (simp only [List.length_cons, List.length_nil]; omega)) only [go_sem, ↓reduceIte, Nat.reduceEqDiff, Nat.reduceAdd, Nat.reduceMul, Nat.reduceSub, Int.reduceToNat, Nat.reduceBEq, List.size_toArray, List.length_cons, List.length_nil, Bool.false_and, Bool.true_and, Bool.or_false, Bool.false_or, Bool.and_false, Bool.and_true, hmin, hrow, happ1]
  exact export_Own (f := eP) 38 (.inr ⟨0, rfl, Nat.zero_lt_one, rfl⟩)
theorem chance_scalar (p t : List (List Int)) (f g : List (Int × Int)) : (chanceR p t f g).isScalar = true := by
  unfold chanceR
  repeat' split
  all_goals rfl
theorem refC_scalar (p t : List (List Int)) (f g : List (Int × Int)) : (refC p t f g).isScalar = true := by
  unfold refC
  repeat' split
  all_goals rfl
theorem f4_con (p t : List (List Int)) (a b : List (Int × Int)) (hp : okLL p) (ht : okLL t) (ha : a.length ≤ maxLen) (hb : b.length ≤ maxLen) : Con Try.prog cfgX 4 [.agg [LLI p, LLI t], .agg [LP a, LP b]] (.bool true) := by
  have ml : maxLen = 9223372036854775807 := by decide
  have k16 := fun h h' K => ConW_any (h := h) (h' := h') (K := K) (lift (by decide) (f16_con p t hp ht)) (by unfold netV; split <;> rfl)
  have k22a := fun h h' K => ConW_any (h := h) (h' := h') (K := K) (f22_con a ha) rfl
  have k22b := fun h h' K => ConW_any (h := h) (h' := h') (K := K) (f22_con b hb) rfl
  have hla : (factM a).length ≤ maxLen := by have := factM_len a; omega
  have hlb : (factM b).length ≤ maxLen := by have := factM_len b; omega
  have n20 : ¬ (2 : Int) = 0 := by decide
  have hst0 : ∀ i, st0 i = .skp := fun _ => rfl
  have h02 : (0 : Nat) < 2 := by decide
  have h12 : (1 : Nat) < 2 := by decide
  have h22 : ¬ (2 : Nat) < 2 := by decide
  have okp := tableM_ok p
  have okt := tableM_ok t
  have hpu : ∀ p t : List (List Int), AV.pureL [.agg [LLI p, LLI t]] = true := fun p t => by simp only [AV.pureL, isPure_agg, isPure_L, Bool.and_true]
  have hpf : ∀ f : List (Int × Int), AV.pureL [LP f] = true := fun f => by simp only [AV.pureL, isPure_L, Bool.and_true]
  generalize factM a = f at *
  generalize factM b = g at *
  generalize tableM p = p' at *
  generalize tableM t = t' at *
  by_cases hnil : p' = [] ∧ t' = []
  · obtain ⟨rfl, rfl⟩ := hnil
    rw [netV_nil] at k16
    have k23 := fun h h' K => ConW_num (h := h) (h' := h') (K := K) (chance_nil f g) rfl
    have k19 := fun h h' K => ConW_num (h := h) (h' := h') (K := K) (lift (by decide) f19_nil) rfl
    have hi : ∀ h : Hp, importR h (.agg [.nil, .nil]) = (.agg [.nil, .nil], h) := fun _ => rfl
    have hs : ∀ h : Hp, sealA h (.agg [.nil, .nil]) = some (.agg [.nil, .nil], h) := fun _ => rfl
    refine Con_intro Try.func4 rfl okX4 (Nat.le_of_ble_eq_true rfl) rfl ?_
    simp only [Try.f4, Option.getD_some, initSt2]
    simp (disch := first | (simp only [go_sem, Bool.and_self, eq_self]; done) | omega | (simp only [List.length_cons, List.length_nil]; omega)) only [go_sem, ↓reduceIte, Nat.reduceEqDiff, Nat.reduceAdd, Nat.reduceMul, Nat.reduceSub, Int.reduceToNat, Nat.reduceBEq, List.size_toArray, List.length_cons, List.length_nil, Bool.false_and, Bool.true_and, Bool.or_false, Bool.false_or, Bool.and_false, Bool.and_true, k16, k22a, k22b, k23, k19, hi, hs, n20, hpu, hpf, List.filterMap_cons, List.filterMap_nil, List.contains_nil, List.contains_cons, Bool.not_false, Bool.not_true, Bool.or_true, h02, h12, h22, hst0]
  · rw [netV_cons hnil] at k16
    have hi : ∀ h : Hp, importR h (.agg [LLI p', LLI t']) = (.agg [LLI p', LLI t'], h) := fun _ => rfl
    have hil : ∀ (h : Hp) (f : List (Int × Int)), importR h (LP f) = (LP f, h) := fun _ _ => rfl
    have kc := fun h h' K => ConW_num (h := h) (h' := h') (K := K) (chance_con p' t' f g okp okt hla hlb) (chance_scalar p' t' f g)
    have kr := fun h h' K => ConW_num (h := h) (h' := h') (K := K) (lift (by decide) (f19_con p' t' okp okt)) rfl
    cases h1 : netB p' t' with
    | false =>
      have hj : chanceR p' t' f g = .tup [.agg [I 0, I 0], I 2] := by simp [chanceR, h1]
      rw [hj] at kc
      refine Con_intro Try.func4 rfl okX4 (Nat.le_of_ble_eq_true rfl) rfl ?_
      simp only [Try.f4, Option.getD_some, initSt2]
      simp (disch := first | (simp only [go_sem, Bool.and_self, eq_self]; done) | omega | (simp only [List.length_cons, List.length_nil]; omega)) only [go_sem, ↓reduceIte, Nat.reduceEqDiff, Nat.reduceAdd, Nat.reduceMul, Nat.reduceSub, Int.reduceToNat, Nat.reduceBEq, List.size_toArray, List.length_cons, List.length_nil, Bool.false_and, Bool.true_and, Bool.or_false, Bool.false_or, Bool.and_false, Bool.and_true, k16, k22a, k22b, kc, kr, h1, hi, hil, n20, hpu, hpf, List.filterMap_cons, List.filterMap_nil, List.contains_nil, List.contains_cons, Bool.not_false, Bool.not_true, Bool.or_true, h02, h12, h22, hst0]
    | true =>
    have N := Net.of h1
    have kf := fun h h' K => ConW_num (h := h) (h' := h') (K := K) (lift (by decide) (f24_con p' t' N f g hla hlb)) (refC_scalar p' t' f g)
    rw [chance_ref h1 f g] at kc
    have hex : ∃ x y c : Int, refC p' t' f g = .tup [.agg [I x, I y], I c] := by
      unfold refC redu
      repeat' split
      all_goals exact ⟨_, _, _, rfl⟩
    obtain ⟨x, y, c, he⟩ := hex
    rw [he] at kc kf
    refine Con_intro Try.func4 rfl okX4 (Nat.le_of_ble_eq_true rfl) rfl ?_
    simp only [Try.f4, Option.getD_some, initSt2]
    simp (disch := first | (simp only [go_sem, Bool.and_self, eq_self]; done) | omega | (simp only [List.length_cons, List.length_nil]; omega)) only [go_sem, ↓reduceIte, Nat.reduceEqDiff, Nat.reduceAdd, Nat.reduceMul, Nat.reduceSub, Int.reduceToNat, Nat.reduceBEq, List.size_toArray, List.length_cons, List.length_nil, Bool.false_and, Bool.true_and, Bool.or_false, Bool.false_or, Bool.and_false, Bool.and_true, k16, k22a, k22b, kc, kr, kf, h1, hi, hil, n20, hpu, hpf, List.filterMap_cons, List.filterMap_nil, List.contains_nil, List.contains_cons, Bool.not_false, Bool.not_true, Bool.or_true, h02, h12, h22, hst0]

end Go.Proofs.Ytpkakapbepkfdaa
