/-
  'BayesLikely' answers true.
-/
import Derived.Test.YtpkakapbepkfdaaL1V
import Derived.Test.YtpkakapbepkfdaaL1T
set_option linter.unusedVariables false
set_option linter.unusedSimpArgs false
set_option maxRecDepth 10000
namespace Go.Proofs.Ytpkakapbepkfdaa
open Go Go.Am

variable {h h' : Hp} {K : AV → Hp → Prop}

theorem list_ext_nth {a b : List Int} (hl : a.length = b.length) (h : ∀ i, i < a.length → nth a i = nth b i) : a = b :=
  List.ext_getElem hl fun i h1 h2 => by rw [← nth_getElem h1, ← nth_getElem h2]; exact h i h1
theorem f39_con (a b : List Int) (ha : a.length ≤ maxLen) (hb : b.length ≤ maxLen) : Con Try.prog cfg 39 [LI a, LI b] (.bool (decide (a = b))) := by
  have ml : maxLen = 9223372036854775807 := by decide
  refine Con_intro Try.func39 rfl ok39 (Nat.le_of_ble_eq_true rfl) rfl ?_
  simp only [Try.f39, Option.getD_some, initSt2]
  by_cases hl : a.length = b.length
  case neg =>
    have hn : ¬ (a.length : Int) = b.length := by omega
    have hr : ¬ a = b := fun h => hl (by rw [h])
    simp (disch := first | (simp only [go_sem, Bool.and_self, eq_self]; done) | omega | (simp only [List.length_cons, List.length_nil]; omega)) only [go_sem, ↓reduceIte, Nat.reduceEqDiff, Nat.reduceAdd, Nat.reduceMul, Nat.reduceSub, Int.reduceToNat, Nat.reduceBEq, List.size_toArray, List.length_cons, List.length_nil, Bool.false_and, Bool.true_and, Bool.or_false, Bool.false_or, Bool.and_false, Bool.and_true, hn, hr]
  have hn : (a.length : Int) = b.length := by omega
  simp (disch := first | (simp only [go_sem, Bool.and_self, eq_self]; done) | omega | (simp only [List.length_cons, List.length_nil]; omega)) only [go_sem, ↓reduceIte, Nat.reduceEqDiff, Nat.reduceAdd, Nat.reduceMul, Nat.reduceSub, Int.reduceToNat, Nat.reduceBEq, List.size_toArray, List.length_cons, List.length_nil, Bool.false_and, Bool.true_and, Bool.or_false, Bool.false_or, Bool.and_false, Bool.and_true, hn]
  refine WP_for 5 a.length (fun i st h => st 0 = LI a ∧ st 1 = LI b ∧ st 4 = .bool false ∧ ∀ j, j < i → nth a j = nth b j) (by simp (disch := first | (simp only [go_sem, Bool.and_self, eq_self]; done) | omega | (simp only [List.length_cons, List.length_nil]; omega)) only [go_sem, ↓reduceIte, Nat.reduceEqDiff, Nat.reduceAdd, Nat.reduceMul, Nat.reduceSub, Int.reduceToNat, Nat.reduceBEq, List.size_toArray, List.length_cons, List.length_nil, Bool.false_and, Bool.true_and, Bool.or_false, Bool.false_or, Bool.and_false, Bool.and_true]) ⟨by simp (disch := first | (simp only [go_sem, Bool.and_self, eq_self]; done) | omega | (simp only [List.length_cons, List.length_nil]; omega)) only [go_sem, ↓reduceIte, Nat.reduceEqDiff, Nat.reduceAdd, Nat.reduceMul, Nat.reduceSub, Int.reduceToNat, Nat.reduceBEq, List.size_toArray, List.length_cons, List.length_nil, Bool.false_and, Bool.true_and, Bool.or_false, Bool.false_or, Bool.and_false, Bool.and_true], by simp (disch := first | (simp only [go_sem, Bool.and_self, eq_self]; done) | omega | (simp only [List.length_cons, List.length_nil]; omega)) only [go_sem, ↓reduceIte, Nat.reduceEqDiff, Nat.reduceAdd, Nat.reduceMul, Nat.reduceSub, Int.reduceToNat, Nat.reduceBEq, List.size_toArray, List.length_cons, List.length_nil, Bool.false_and, Bool.true_and, Bool.or_false, Bool.false_or, Bool.and_false, Bool.and_true], by simp (disch := first | (simp only [go_sem, Bool.and_self, eq_self]; done) | omega | (simp only [List.length_cons, List.length_nil]; omega)) only [go_sem, ↓reduceIte, Nat.reduceEqDiff, Nat.reduceAdd, Nat.reduceMul, Nat.reduceSub, Int.reduceToNat, Nat.reduceBEq, List.size_toArray, List.length_cons, List.length_nil, Bool.false_and, Bool.true_and, Bool.or_false, Bool.false_or, Bool.and_false, Bool.and_true], by omega⟩ ?_
  rintro i st h hi s5 ⟨s0, s1, s4, hg⟩
  by_cases hlt : i < a.length
  case neg =>
    have hab : a = b := list_ext_nth hl fun j hj => hg j (by omega)
    have hlt2 : ¬ (i : Int) < a.length := by omega
    subst hab
    simp (disch := first | (simp only [go_sem, Bool.and_self, eq_self]; done) | omega | (simp only [List.length_cons, List.length_nil]; omega)) only [go_sem, ↓reduceIte, Nat.reduceEqDiff, Nat.reduceAdd, Nat.reduceMul, Nat.reduceSub, Int.reduceToNat, Nat.reduceBEq, List.size_toArray, List.length_cons, List.length_nil, Bool.false_and, Bool.true_and, Bool.or_false, Bool.false_or, Bool.and_false, Bool.and_true, s0, s1, s4, s5, hlt]
  have hlb : i < b.length := by omega
  by_cases he : nth a i = nth b i
  · simp (disch := first | (simp only [go_sem, Bool.and_self, eq_self]; done) | omega | (simp only [List.length_cons, List.length_nil]; omega)) only [go_sem, ↓reduceIte, Nat.reduceEqDiff, Nat.reduceAdd, Nat.reduceMul, Nat.reduceSub, Int.reduceToNat, Nat.reduceBEq, List.size_toArray, List.length_cons, List.length_nil, Bool.false_and, Bool.true_and, Bool.or_false, Bool.false_or, Bool.and_false, Bool.and_true, s0, s1, s4, s5, hlt, hlb, he]
    rw [ForK_normal]
    exact ⟨hlt, by simp (disch := first | (simp only [go_sem, Bool.and_self, eq_self]; done) | omega | (simp only [List.length_cons, List.length_nil]; omega)) only [go_sem, ↓reduceIte, Nat.reduceEqDiff, Nat.reduceAdd, Nat.reduceMul, Nat.reduceSub, Int.reduceToNat, Nat.reduceBEq, List.size_toArray, List.length_cons, List.length_nil, Bool.false_and, Bool.true_and, Bool.or_false, Bool.false_or, Bool.and_false, Bool.and_true, s5], by simp (disch := first | (simp only [go_sem, Bool.and_self, eq_self]; done) | omega | (simp only [List.length_cons, List.length_nil]; omega)) only [go_sem, ↓reduceIte, Nat.reduceEqDiff, Nat.reduceAdd, Nat.reduceMul, Nat.reduceSub, Int.reduceToNat, Nat.reduceBEq, List.size_toArray, List.length_cons, List.length_nil, Bool.false_and, Bool.true_and, Bool.or_false, Bool.false_or, Bool.and_false, Bool.and_true, s0], by simp (disch := first | (simp only [go_sem, Bool.and_self, eq_self]; done) | omega | (simp only [List.length_cons, List.length_nil]; omega)) only [go_sem, ↓reduceIte, Nat.reduceEqDiff, Nat.reduceAdd, Nat.reduceMul, Nat.reduceSub, Int.reduceToNat, Nat.reduceBEq, List.size_toArray, List.length_cons, List.length_nil, Bool.false_and, Bool.true_and, Bool.or_false, Bool.false_or, Bool.and_false, Bool.and_true, s1], by simp (disch := first | (simp only [go_sem, Bool.and_self, eq_self]; done) | omega | (simp only [List.length_cons, List.length_nil]; omega)) only [go_sem, ↓reduceIte, Nat.reduceEqDiff, Nat.reduceAdd, Nat.reduceMul, Nat.reduceSub, Int.reduceToNat, Nat.reduceBEq, List.size_toArray, List.length_cons, List.length_nil, Bool.false_and, Bool.true_and, Bool.or_false, Bool.false_or, Bool.and_false, Bool.and_true, s4], fun j hj => by
      rcases Nat.lt_or_ge j i with h | h
      · exact hg j h
      · rw [show j = i by omega]; exact he⟩
  · have hr : ¬ a = b := fun h => he (by rw [h])
    simp (disch := first | (simp only [go_sem, Bool.and_self, eq_self]; done) | omega | (simp only [List.length_cons, List.length_nil]; omega)) only [go_sem, ↓reduceIte, Nat.reduceEqDiff, Nat.reduceAdd, Nat.reduceMul, Nat.reduceSub, Int.reduceToNat, Nat.reduceBEq, List.size_toArray, List.length_cons, List.length_nil, Bool.false_and, Bool.true_and, Bool.or_false, Bool.false_or, Bool.and_false, Bool.and_true, s0, s1, s4, s5, hlt, hlb, he, hr]
theorem f37_nil (f : List (Int × Int)) : Con Try.prog cfg 37 [.agg [.nil, .nil], LP f] (.tup [LI [], .agg [I 0, I 0], I 2]) := by
  have n20 : ¬ (2 : Int) = 0 := by decide
  have k46n : Con Try.prog cfg 46 [.agg [.nil, .nil]] (.tup [.agg [.nil, .nil, I 0], I 2]) := ⟨100, by kernel_rfl⟩
  have kn := fun h h' K => ConW_any (h := h) (h' := h') (K := K) k46n rfl
  have hi : ∀ h : Hp, importR h (.tup [.agg [.nil, .nil, I 0], I 2]) = (.tup [.agg [.nil, .nil, I 0], I 2], h) := fun _ => rfl
  have hs : ∀ h : Hp, sealA h (.agg [.nil, .nil]) = some (.agg [.nil, .nil], h) := fun _ => rfl
  refine Con_intro Try.func37 rfl ok37 (Nat.le_of_ble_eq_true rfl) rfl ?_
  simp only [Try.f37, Option.getD_some, initSt2]
  simp (disch := first | (simp only [go_sem, Bool.and_self, eq_self]; done) | omega | (simp only [List.length_cons, List.length_nil]; omega)) only [go_sem, ↓reduceIte, Nat.reduceEqDiff, Nat.reduceAdd, Nat.reduceMul, Nat.reduceSub, Int.reduceToNat, Nat.reduceBEq, List.size_toArray, List.length_cons, List.length_nil, Bool.false_and, Bool.true_and, Bool.or_false, Bool.false_or, Bool.and_false, Bool.and_true, kn, hi, n20, hs]
  rfl
theorem refL_ex {p t : List (List Int)} (g : List (Int × Int)) : ∃ (l : List Int) (x y c : Int), refL p t g = .tup [LI l, .agg [I x, I y], I c] ∧ l.length ≤ p.length := by
  unfold refL
  split
  · split
    · exact ⟨_, _, _, _, rfl, by simp⟩
    · refine ⟨_, _, _, _, rfl, ?_⟩
      rcases bestN_row (p := p) (t := t) g (2 ^ p.length) with ⟨_, h⟩ | ⟨y, _, h, _⟩
      · rw [h]; simp
      · rw [h, rowN_len]; omega
  · exact ⟨_, _, _, _, rfl, by simp⟩
theorem f9_con (p t : List (List Int)) (b : List (Int × Int)) (hp : okLL p) (ht : okLL t) (hb : b.length ≤ maxLen) : Con Try.prog cfgX 9 [.agg [LLI p, LLI t], LP b] (.bool true) := by
  have ml : maxLen = 9223372036854775807 := by decide
  have k16 := fun h h' K => ConW_any (h := h) (h' := h') (K := K) (lift (by decide) (f16_con p t hp ht)) (by unfold netV; split <;> rfl)
  have k22b := fun h h' K => ConW_any (h := h) (h' := h') (K := K) (f22_con b hb) rfl
  have hlb : (factM b).length ≤ maxLen := by have := factM_len b; omega
  have n20 : ¬ (2 : Int) = 0 := by decide
  have z00 : ((0 : Nat) : Int) = 0 := rfl
  have okp := tableM_ok p
  have okt := tableM_ok t
  generalize factM b = g at *
  generalize tableM p = p' at *
  generalize tableM t = t' at *
  by_cases hnil : p' = [] ∧ t' = []
  · obtain ⟨rfl, rfl⟩ := hnil
    rw [netV_nil] at k16
    have k37 := fun h h' K => ConW_any (h := h) (h' := h') (K := K) (lift (by decide) (f37_nil g)) rfl
    have k19 := fun h h' K => ConW_num (h := h) (h' := h') (K := K) (lift (by decide) f19_nil) rfl
    have hi : ∀ h : Hp, importR h (.agg [.nil, .nil]) = (.agg [.nil, .nil], h) := fun _ => rfl
    have hi2 : ∀ (h : Hp) (l : List Int) (x y c : Int), importR h (.tup [LI l, .agg [I x, I y], I c]) = (.tup [LI l, .agg [I x, I y], I c], h) := fun _ _ _ _ _ => rfl
    have hs : ∀ h : Hp, sealA h (.agg [.nil, .nil]) = some (.agg [.nil, .nil], h) := fun _ => rfl
    refine Con_intro Try.func9 rfl okX9 (Nat.le_of_ble_eq_true rfl) rfl ?_
    simp only [Try.f9, Option.getD_some, initSt2]
    simp (disch := first | (simp only [go_sem, Bool.and_self, eq_self]; done) | omega | (simp only [List.length_cons, List.length_nil]; omega)) only [go_sem, ↓reduceIte, Nat.reduceEqDiff, Nat.reduceAdd, Nat.reduceMul, Nat.reduceSub, Int.reduceToNat, Nat.reduceBEq, List.size_toArray, List.length_cons, List.length_nil, Bool.false_and, Bool.true_and, Bool.or_false, Bool.false_or, Bool.and_false, Bool.and_true, k16, k22b, k37, k19, hi, hi2, hs, n20, z00]
  · rw [netV_cons hnil] at k16
    have hi : ∀ h : Hp, importR h (.agg [LLI p', LLI t']) = (.agg [LLI p', LLI t'], h) := fun _ => rfl
    have hil : ∀ (h : Hp) (f : List (Int × Int)), importR h (LP f) = (LP f, h) := fun _ _ => rfl
    have hi2 : ∀ (h : Hp) (l : List Int) (x y c : Int), importR h (.tup [LI l, .agg [I x, I y], I c]) = (.tup [LI l, .agg [I x, I y], I c], h) := fun _ _ _ _ _ => rfl
    have kr := fun h h' K => ConW_num (h := h) (h' := h') (K := K) (lift (by decide) (f19_con p' t' okp okt)) rfl
    have k37 := fun h h' K => ConW_any (h := h) (h' := h') (K := K) (lift (by decide) (f37_con p' t' g okp okt hlb)) (by unfold likR; split; (obtain ⟨l, x, y, c, he, hl⟩ := refL_ex (p := p') (t := t') g; rw [he]); all_goals rfl)
    cases h1 : netB p' t' with
    | false =>
      have hj : likR p' t' g = .tup [LI [], .agg [I 0, I 0], I 2] := by simp [likR, h1]
      rw [hj] at k37
      refine Con_intro Try.func9 rfl okX9 (Nat.le_of_ble_eq_true rfl) rfl ?_
      simp only [Try.f9, Option.getD_some, initSt2]
      simp (disch := first | (simp only [go_sem, Bool.and_self, eq_self]; done) | omega | (simp only [List.length_cons, List.length_nil]; omega)) only [go_sem, ↓reduceIte, Nat.reduceEqDiff, Nat.reduceAdd, Nat.reduceMul, Nat.reduceSub, Int.reduceToNat, Nat.reduceBEq, List.size_toArray, List.length_cons, List.length_nil, Bool.false_and, Bool.true_and, Bool.or_false, Bool.false_or, Bool.and_false, Bool.and_true, k16, k22b, k37, kr, h1, hi, hil, hi2, n20, z00]
    | true =>
    have N := Net.of h1
    have hj : likR p' t' g = refL p' t' g := by simp [likR, h1]
    obtain ⟨l, x, y, c, he, hl⟩ := refL_ex (p := p') (t := t') g
    have k38 := fun h h' K => ConW_any (h := h) (h' := h') (K := K) (lift (by decide) (f38_con p' t' h1 g hlb)) (by rw [he]; rfl)
    have hl2 : l.length ≤ maxLen := by have := N.n1; omega
    have k39 := fun h h' K => ConW_num (h := h) (h' := h') (K := K) (lift (by decide) (f39_con l l hl2 hl2)) rfl
    rw [hj, he] at k37
    rw [he] at k38
    refine Con_intro Try.func9 rfl okX9 (Nat.le_of_ble_eq_true rfl) rfl ?_
    simp only [Try.f9, Option.getD_some, initSt2]
    simp (disch := first | (simp only [go_sem, Bool.and_self, eq_self]; done) | omega | (simp only [List.length_cons, List.length_nil]; omega)) only [go_sem, ↓reduceIte, Nat.reduceEqDiff, Nat.reduceAdd, Nat.reduceMul, Nat.reduceSub, Int.reduceToNat, Nat.reduceBEq, List.size_toArray, List.length_cons, List.length_nil, Bool.false_and, Bool.true_and, Bool.or_false, Bool.false_or, Bool.and_false, Bool.and_true, k16, k22b, k37, k38, k39, kr, h1, hi, hil, hi2, n20, z00]

end Go.Proofs.Ytpkakapbepkfdaa
