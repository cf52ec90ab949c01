/-
  Most: plain facts about the greatest weight; valid fractions.
-/
import Derived.Test.YtpkakapbepkfdaaL1W
import Derived.Test.YtpkakapbepkfdaaL1Y
set_option linter.unusedVariables false
set_option linter.unusedSimpArgs false
set_option maxRecDepth 10000
namespace Go.Proofs.Ytpkakapbepkfdaa
open Go Go.Am

variable {h h' : Hp} {K : AV → Hp → Prop}

theorem f63_con (x : Int) (hx : 0 ≤ x ∧ x ≤ 4611686018427387904) : Con Try.prog cfg 63 [I x] (I x) := by
  have hm : max x (0 - x) = x := by omega
  refine Con_intro Try.func63 rfl ok63 (Nat.le_of_ble_eq_true rfl) rfl ?_
  simp only [Try.f63, Option.getD_some, initSt1]
  simp (disch := first | (simp only [go_sem, Bool.and_self, eq_self]; done) | omega | (simp only [List.length_cons, List.length_nil]; omega)) only [go_sem, ↓reduceIte, Nat.reduceEqDiff, Nat.reduceAdd, Nat.reduceMul, Nat.reduceSub, Int.reduceToNat, Nat.reduceBEq, List.size_toArray, List.length_cons, List.length_nil, Bool.false_and, Bool.true_and, Bool.or_false, Bool.false_or, Bool.and_false, Bool.and_true, hm]
theorem f34_con (a b : Int) (ha : 0 ≤ a ∧ a ≤ 4611686018427387904) (hb : 0 < b ∧ b ≤ 4611686018427387904) (hg : gcdI a b = 1) : Con Try.prog cfg 34 [.agg [I a, I b]] (.bool true) := by
  have h1 := Int.tmod_nonneg b ha.1
  have h2 := Int.tmod_lt_of_pos a hb.1
  have k63 := fun h h' K => ConW_num (h := h) (h' := h') (K := K) (f63_con (a.tmod b) (by omega)) rfl
  have k62' := fun h h' K => k62 (h := h) (h' := h') (K := K) b (a.tmod b) (by omega) (by omega)
  have hs := gcdI_step ha.1 hb.1
  rw [hs, hg] at k62'
  have n1 : ¬ b < 1 := by omega
  have n0 : ¬ b = 0 := by omega
  have hal : ∀ g : Hp, allocB g (some (.agg [I a, I b])) = some (.ptr g.nx 0, g.alloc (.cells false false [I a, I b])) := fun g => allocB_agg _ rfl
  refine Con_intro Try.func34 rfl ok34 (Nat.le_of_ble_eq_true rfl) rfl ?_
  simp only [Try.f34, Option.getD_some, initSt1]
  simp (disch := first | (simp only [go_sem, Bool.and_self, eq_self]; done) | omega | (simp only [List.length_cons, List.length_nil]; omega)) only [go_sem, ↓reduceIte, Nat.reduceEqDiff, Nat.reduceAdd, Nat.reduceMul, Nat.reduceSub, Int.reduceToNat, Nat.reduceBEq, List.size_toArray, List.length_cons, List.length_nil, Bool.false_and, Bool.true_and, Bool.or_false, Bool.false_or, Bool.and_false, Bool.and_true, hal, n1, n0, k63, k62']
theorem redu_gcd {a b : Int} (hb : 0 < b) : gcdI (a / gcdI a b) (b / gcdI a b) = 1 := by
  have h : 0 < Int.gcd a b := Int.gcd_pos_of_ne_zero_right _ (by omega)
  have := Int.gcd_ediv_gcd_ediv_gcd h
  unfold gcdI
  rw [this]; rfl
theorem redu_pos {a b : Int} (ha : 0 < a) (hb : 0 < b) : 0 < a / gcdI a b ∧ 0 < b / gcdI a b ∧ a / gcdI a b ≤ a ∧ b / gcdI a b ≤ b := by
  have hg := gcdI_pos (a := a) hb
  have d1 : gcdI a b ∣ a := Int.gcd_dvd_left a b
  have d2 : gcdI a b ∣ b := Int.gcd_dvd_right a b
  refine ⟨Int.ediv_pos_of_pos_of_dvd ha (by omega) d1, Int.ediv_pos_of_pos_of_dvd hb (by omega) d2, Int.ediv_le_self _ (by omega), Int.ediv_le_self _ (by omega)⟩
theorem redu_mul (a b : Int) : gcdI a b * (a / gcdI a b) = a ∧ gcdI a b * (b / gcdI a b) = b :=
  ⟨Int.mul_ediv_cancel' (Int.gcd_dvd_left a b), Int.mul_ediv_cancel' (Int.gcd_dvd_right a b)⟩
/-- Two fractions with one denominator, reduced, and compared crosswise. -/
theorem cross {x y d : Int} (hd : 0 < d) : (x / gcdI x d * (d / gcdI y d) < y / gcdI y d * (d / gcdI x d) ↔ x < y) ∧ (x / gcdI x d * (d / gcdI y d) = y / gcdI y d * (d / gcdI x d) ↔ x = y) := by
  have hgx := gcdI_pos (a := x) hd
  have hgy := gcdI_pos (a := y) hd
  obtain ⟨x1, x2⟩ := redu_mul x d
  obtain ⟨y1, y2⟩ := redu_mul y d
  generalize gcdI x d = g at *
  generalize gcdI y d = k at *
  generalize x / g = a at *
  generalize d / g = c at *
  generalize y / k = b at *
  generalize d / k = e at *
  have hG : 0 < g * k := Int.mul_pos hgx hgy
  have h1 : g * k * (a * e) = x * d := by rw [← x1, ← y2]; rw [show g * k * (a * e) = (g * a) * (k * e) by rw [Int.mul_assoc, Int.mul_left_comm k a e, ← Int.mul_assoc]]
  have h2 : g * k * (b * c) = y * d := by rw [← y1, ← x2]; rw [Int.mul_comm g k, Int.mul_assoc, Int.mul_left_comm g b c, ← Int.mul_assoc]
  constructor
  · rw [← Int.mul_lt_mul_left hG, h1, h2]; exact Int.mul_lt_mul_right hd
  · constructor
    · intro h
      have h3 : x * d = y * d := by rw [← h1, ← h2, h]
      exact Int.eq_of_mul_eq_mul_right (by omega) h3
    · rintro rfl
      have h3 : g * k * (a * e) = g * k * (b * c) := by rw [h1, h2]
      exact Int.eq_of_mul_eq_mul_left (by omega) h3

/-- The row that is found is the first of the best ones. -/
theorem bestN_max {p t : List (List Int)} (f : List (Int × Int)) : ∀ x y, y < x → agreeB (rowN p.length y) f = true → weightB p t (rowN p.length y) p.length ≤ (bestN p t f x).1 := by
  intro x
  induction x with
  | zero => intro y hy; omega
  | succ x ih =>
    intro y hy ha
    rw [bestN]
    rcases Nat.lt_or_ge y x with h | h
    · have := ih y h ha
      split
      · rename_i hc
        simp only [Bool.and_eq_true, decide_eq_true_eq] at hc
        show _ ≤ weightB p t (rowN p.length x) p.length
        omega
      · exact this
    · have hyx : y = x := by omega
      subst hyx
      rw [ha, Bool.true_and]
      split
      · exact Int.le_refl _
      · rename_i hc
        simp only [decide_eq_true_eq] at hc
        omega
theorem bestN_first {p t : List (List Int)} (f : List (Int × Int)) : ∀ x, (bestN p t f x).1 = 0 ∧ (bestN p t f x).2 = [] ∨ ∃ y, y < x ∧ agreeB (rowN p.length y) f = true ∧ (bestN p t f x).2 = rowN p.length y ∧ (bestN p t f x).1 = weightB p t (rowN p.length y) p.length ∧
    ∀ z, z < y → agreeB (rowN p.length z) f = true → weightB p t (rowN p.length z) p.length < (bestN p t f x).1
  | 0 => .inl ⟨rfl, rfl⟩
  | x + 1 => by
    rw [bestN]
    split
    · rename_i hc
      simp only [Bool.and_eq_true, decide_eq_true_eq] at hc
      refine .inr ⟨x, Nat.lt_succ_self x, hc.1, rfl, rfl, fun z hz hza => ?_⟩
      have := bestN_max (p := p) (t := t) f x z hz hza
      show _ < weightB p t (rowN p.length x) p.length
      omega
    · rcases bestN_first (p := p) (t := t) f x with h | ⟨y, h1, h2, h3, h4, h5⟩
      · exact .inl h
      · exact .inr ⟨y, by omega, h2, h3, h4, h5⟩
theorem rowN_inj {n : Nat} : ∀ {x y : Nat}, x < 2 ^ n → y < 2 ^ n → rowN n x = rowN n y → x = y := by
  induction n with
  | zero => intro x y hx hy _; simp at hx hy; omega
  | succ n ih =>
    intro x y hx hy he
    have h2 : 2 ^ (n + 1) = 2 ^ n + 2 ^ n := by rw [Nat.pow_succ]; omega
    rcases Nat.lt_or_ge x (2 ^ n) with a | a <;> rcases Nat.lt_or_ge y (2 ^ n) with b | b
    · rw [rowN_zero a, rowN_zero b] at he
      exact ih a b (List.cons.inj he).2
    · obtain ⟨z, rfl⟩ : ∃ z, y = 2 ^ n + z := ⟨y - 2 ^ n, by omega⟩
      rw [rowN_zero a, rowN_one (by omega)] at he
      cases (List.cons.inj he).1
    · obtain ⟨z, rfl⟩ : ∃ z, x = 2 ^ n + z := ⟨x - 2 ^ n, by omega⟩
      rw [rowN_zero b, rowN_one (by omega)] at he
      cases (List.cons.inj he).1
    · obtain ⟨z, rfl⟩ : ∃ z, x = 2 ^ n + z := ⟨x - 2 ^ n, by omega⟩
      obtain ⟨z', rfl⟩ : ∃ z', y = 2 ^ n + z' := ⟨y - 2 ^ n, by omega⟩
      rw [rowN_one (by omega), rowN_one (by omega)] at he
      have := ih (by omega) (by omega) (List.cons.inj he).2
      omega
theorem sumN_nonneg_zero {f : Nat → Int} : ∀ {n : Nat}, (∀ i, i < n → f i = 0) → sumN f n = 0
  | 0, _ => rfl
  | n + 1, h => by rw [sumN, sumN_nonneg_zero (fun i hi => h i (by omega)), h n (by omega)]; rfl
theorem best_zero {p t : List (List Int)} (N : Net p t) {g : List (Int × Int)} (hz : (bestN p t g (2 ^ p.length)).1 = 0) : refS p t g [] = 0 := by
  unfold refS
  refine sumN_nonneg_zero fun x hx => ?_
  unfold refT
  split
  · rename_i hc
    simp only [Bool.and_eq_true] at hc
    have h1 := bestN_max (p := p) (t := t) g (2 ^ p.length) x hx hc.1
    have h2 := (weight_bounds N (rowN p.length x) (Nat.le_refl _)).1
    omega
  · rfl

end Go.Proofs.Ytpkakapbepkfdaa
