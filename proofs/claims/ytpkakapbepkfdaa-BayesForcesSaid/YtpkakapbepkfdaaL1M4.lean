/-
  The weights of all rows add up.
  force: the network in which a variable has a value.
  The reference's Force; same.
  Force and Effect.
  'BayesForces' answers true.
-/
import Derived.Test.YtpkakapbepkfdaaL1M3
set_option linter.unusedVariables false
set_option linter.unusedSimpArgs false
set_option maxRecDepth 10000
namespace Go.Proofs.Ytpkakapbepkfdaa
open Go Go.Am

variable {h h' : Hp} {K : AV → Hp → Prop}

theorem rowN_two (m y b : Nat) (hb : b < 2) : rowN (m + 1) (2 * y + b) = rowN m y ++ [(b : Int)] := by
  refine list_ext_nth (by simp [rowN_len]) fun j hj => ?_
  rw [rowN_len] at hj
  rw [rowN_nth hj]
  by_cases h : j < m
  · rw [nth_append_left _ _ _ (by rw [rowN_len]; exact h), rowN_nth h]
    have e : 2 ^ (m + 1 - 1 - j) = 2 * 2 ^ (m - 1 - j) := by
      rw [← Nat.pow_succ']; congr 1; omega
    rw [e, ← Nat.div_div_eq_div_mul, show (2 * y + b) / 2 = y by omega]
  · have hjm : j = m := by omega
    subst hjm
    rw [nth, List.getElem?_append_right (by rw [rowN_len]; omega), rowN_len]
    simp only [Nat.sub_self, List.getElem?_cons_zero, Option.getD_some, Nat.add_sub_cancel, Nat.pow_zero, Nat.div_one]
    omega
theorem sumN_two (f : Nat → Int) : ∀ n, sumN f (2 * n) = sumN (fun y => f (2 * y) + f (2 * y + 1)) n
  | 0 => rfl
  | n + 1 => by
    have e : 2 * (n + 1) = 2 * n + 1 + 1 := by omega
    rw [e, sumN, sumN, sumN_two f n, sumN]; omega
theorem sumN_mul (f : Nat → Int) (c : Int) : ∀ n, sumN (fun y => f y * c) n = sumN f n * c
  | 0 => by simp [sumN]
  | n + 1 => by rw [sumN, sumN, sumN_mul f c n, Int.add_mul]
theorem wt_front {p t : List (List Int)} (N : Net p t) {v w : List Int} {i : Nat} (hi : i < p.length) (h : ∀ k, k ≤ i → nth v k = nth w k) : wt p t v i = wt p t w i := by
  have : caseF (nth p i) v (nth p i).length = caseF (nth p i) w (nth p i).length := caseF_congr fun k hk => by
    obtain ⟨a0, a1⟩ := N.par i k hi hk
    exact h _ (by omega)
  simp only [wt, this, h i (Nat.le_refl _)]
theorem total {p t : List (List Int)} (N : Net p t) : ∀ m, m ≤ p.length → sumN (fun x => prodN (wt p t (rowN m x)) m) (2 ^ m) = 16 ^ m
  | 0, _ => by simp [sumN, prodN]
  | m + 1, hm => by
    have ih := total N m (by omega)
    rw [Nat.pow_succ, Nat.mul_comm, sumN_two]
    have e : ∀ y, y < 2 ^ m → (fun y => prodN (wt p t (rowN (m + 1) (2 * y))) (m + 1) + prodN (wt p t (rowN (m + 1) (2 * y + 1))) (m + 1)) y = (fun y => prodN (wt p t (rowN m y)) m * 16) y := by
      intro y _
      have r0 := rowN_two m y 0 (by decide)
      have r1 := rowN_two m y 1 (by decide)
      simp only [Nat.add_zero] at r0
      have fr : ∀ b : Int, prodN (wt p t (rowN m y ++ [b])) m = prodN (wt p t (rowN m y)) m := fun b => prodN_congr fun i hi => wt_front N (by omega) fun k hk => nth_append_left _ _ _ (by rw [rowN_len]; omega)
      have last : ∀ b : Int, nth (rowN m y ++ [b]) m = b := fun b => by rw [nth, List.getElem?_append_right (by rw [rowN_len]; omega), rowN_len]; simp
      have cs : ∀ b : Int, caseF (nth p m) (rowN m y ++ [b]) (nth p m).length = caseF (nth p m) (rowN m y) (nth p m).length := fun b => caseF_congr fun k hk => by
        obtain ⟨a0, a1⟩ := N.par m k (by omega) hk
        exact nth_append_left _ _ _ (by rw [rowN_len]; omega)
      simp only [r0, r1, prodN, fr, wt, last, cs]
      simp only [show ((0 : Nat) : Int) = 0 from rfl, show ((1 : Nat) : Int) = 1 from rfl, if_true, show ¬ (1 : Int) = 0 by decide, if_false]
      rw [← Int.mul_add]; congr 1; omega
    rw [sumN_congr e, sumN_mul, ih, Int.pow_succ]
theorem total_weight {p t : List (List Int)} (N : Net p t) : sumN (fun x => weightB p t (rowN p.length x) p.length) (2 ^ p.length) = 16 ^ p.length := total N p.length (Nat.le_refl _)

/-- A reduced fraction with a denominator that is known, back. -/
theorem redu_back {a b : Int} (hb : 0 < b) : b.tmod (b / gcdI a b) = 0 ∧ b.tdiv (b / gcdI a b) = gcdI a b ∧ a / gcdI a b * gcdI a b = a := by
  have hg := gcdI_pos (a := a) hb
  have hp : 0 < b / gcdI a b := Int.ediv_pos_of_pos_of_dvd hb (by omega) (Int.gcd_dvd_right a b)
  obtain ⟨m1, m2⟩ := redu_mul a b
  generalize gcdI a b = g at *
  generalize b / g = c at *
  refine ⟨?_, ?_, by rw [Int.mul_comm]; exact m1⟩
  · rw [Int.tmod_eq_emod_of_nonneg (by omega), ← m2]; exact Int.mul_emod_left g c
  · rw [Int.tdiv_eq_ediv_of_nonneg (by omega), ← m2]; exact Int.mul_ediv_cancel g (by omega)
theorem sumN_bounds {f : Nat → Int} {M : Int} (h : ∀ i, 0 ≤ f i ∧ f i ≤ M) : ∀ n : Nat, 0 ≤ sumN f n ∧ sumN f n ≤ n * M
  | 0 => by simp [sumN]
  | n + 1 => by
    have h1 := sumN_bounds h n
    have h2 := h n
    rw [sumN]
    have e : ((n + 1 : Nat) : Int) * M = n * M + M := by rw [Int.natCast_add, Int.add_mul]; simp
    rw [e]; omega
def bitT (P : List (List Int)) (g : List (Int × Int)) (w : Nat → Int) (v : Int) (x : Nat) : Int := if agreeB (rowN P.length x) g then w x * nth (rowN P.length x) v.toNat else 0
def agT (P : List (List Int)) (g : List (Int × Int)) (w : Nat → Int) (x : Nat) : Int := if agreeB (rowN P.length x) g then w x else 0

theorem f6_con (p t : List (List Int)) (v0 : Int) (b : List (Int × Int)) (hp : okLL p) (ht : okLL t) (hb : b.length ≤ maxLen) : Con Try.prog cfgX 6 [.agg [LLI p, LLI t], I v0, LP b] (.bool true) := by
  have ml : maxLen = 9223372036854775807 := by decide
  obtain ⟨_, c30, P, T, h1, hP7, rfl⟩ := f30_con p t hp ht 7 (by decide)
  have N := Net.of h1
  have hn1 := N.n1
  obtain ⟨okp, okt⟩ := okLL_net h1
  have hv := modI_bounds v0 (n := (P.length : Int)) (by omega)
  have k31' := fun h h' K => ConW_num (h := h) (h' := h') (K := K) (lift (by decide) (f31_con v0 P.length (by omega))) rfl
  generalize modI v0 P.length = v at *
  obtain ⟨_, c32, g, rfl, hfg, hg6, _⟩ := f32_con P T N b hb v v
  have hgl : g.length ≤ maxLen := by omega
  have k30 := fun h h' K => ConW_any (h := h) (h' := h') (K := K) (lift (by decide) c30) rfl
  have k32 := fun h h' K => ConW_any (h := h) (h' := h') (K := K) (lift (by decide) c32) rfl
  have hi : ∀ h : Hp, importR h (.agg [LLI P, LLI T]) = (.agg [LLI P, LLI T], h) := fun _ => rfl
  have hil : ∀ (h : Hp) (f : List (Int × Int)), importR h (LP f) = (LP f, h) := fun _ _ => rfl
  have hD : (0 : Int) < 16 ^ P.length := pow16_pos _
  have hD2 := pow28 (n := P.length) (by omega)
  have wx := fun x => weight_bounds N (rowN P.length x) (Nat.le_refl _)
  have hJ := fun x => joint_row (p := P) (t := T) h1 x
  have htot := total_weight N
  have hpow : ∀ i, i ≤ P.length → (16 : Int) ^ i ≤ 268435456 := fun i hi => pow28 (by omega)
  have hpp : ∀ i, (0 : Int) < 16 ^ i := fun i => pow16_pos i
  have hR : chanceR P T [(v, 1)] g = refC P T [(v, 1)] g := chance_ref h1 _ _
  have hf1 : factsB P.length [(v, 1)] = true := by
    refine all_range fun i hi => ?_
    have : i = 0 := by simpa using hi
    subst this
    simp [factB, inB, nth]; omega
  have hS1 := refS_bounds N [(v, 1)] g
  have hS2 := refS_bounds N g []
  have hrefS : ∀ (w : Nat → Int), (∀ x, weightB P T (rowN P.length x) P.length = w x) → refS P T [(v, 1)] g = sumN (bitT P g w v) (2 ^ P.length) ∧ refS P T g [] = sumN (agT P g w) (2 ^ P.length) := by
    intro w hw
    refine ⟨sumN_congr fun x hx => ?_, sumN_congr fun x hx => ?_⟩
    · simp only [refT, bitT, hw]
      have hb := (row_rowN (p := P) (x := x)).bit v.toNat (by omega)
      have ha : agreeB (rowN P.length x) [(v, 1)] = decide (nth (rowN P.length x) v.toNat = 1) := by simp [agreeB]
      rw [ha]
      cases agreeB (rowN P.length x) g with
      | false => simp
      | true => rcases hb with h | h <;> simp [h]
    · have : agreeB (rowN P.length x) [] = true := rfl
      simp only [refT, agT, hw, this, Bool.and_true]
  have hC : refC P T [(v, 1)] g = if refS P T g [] = 0 then .tup [.agg [I 0, I 0], I 6] else .tup [redu (refS P T [(v, 1)] g) (refS P T g []), I 0] := by simp [refC, hf1, hfg]
  obtain ⟨w, hw⟩ : ∃ w : Nat → Int, ∀ x, weightB P T (rowN P.length x) P.length = w x := ⟨_, fun _ => rfl⟩
  obtain ⟨hq1, hq2⟩ := hrefS w hw
  simp only [hw] at wx hJ htot
  rw [hC] at hR
  rw [hq1, hq2] at hR
  rw [hq1] at hS1
  rw [hq2] at hS2
  have kc : ∀ h h' K, ConW Try.prog cfgX 23 h (some ([.agg [LLI P, LLI T], L eP [(v, 1)], LP g], h')) K = K (chanceR P T [(v, 1)] g) h := fun h h' K => ConW_num (chance_con P T [(v, 1)] g okp okt (by simp [ml]) hgl) (chance_scalar P T [(v, 1)] g)
  rw [hR] at kc
  have hpw : (2 : Nat) ^ P.length ≤ 2 ^ 7 := Nat.pow_le_pow_right (by decide) (by omega)
  have esh := fun t => shl_one (P := Try.prog) t P.length (by omega)
  refine Con_intro Try.func6 rfl okX6 (Nat.le_of_ble_eq_true rfl) rfl ?_
  simp only [Try.f6, Option.getD_some, initSt3]
  simp (disch := first | (simp only [go_sem, Bool.and_self, eq_self]; done) | omega | (simp only [List.length_cons, List.length_nil]; omega)) only [go_sem, ↓reduceIte, Nat.reduceEqDiff, Nat.reduceAdd, Nat.reduceMul, Nat.reduceSub, Int.reduceToNat, Nat.reduceBEq, List.size_toArray, List.length_cons, List.length_nil, Bool.false_and, Bool.true_and, Bool.or_false, Bool.false_or, Bool.and_false, Bool.and_true, k30, k31', k32, hi, hil]
  refine WP_cut (fun st h => st 1 = I v ∧ st 6 = .bool false ∧ st 7 = .ptr 1 0 ∧ st 8 = I P.length ∧ st 9 = LP g ∧ st 10 = I (16 ^ P.length) ∧ 2 ≤ h.nx ∧ h.bl 1 = some (.cells false false [LLI P, LLI T])) ?_ ?_
  · refine WP_for 11 P.length (fun i st h => st 1 = I v ∧ st 6 = .bool false ∧ st 7 = .ptr 1 0 ∧ st 8 = I P.length ∧ st 9 = LP g ∧ st 10 = I (16 ^ i) ∧ 2 ≤ h.nx ∧ h.bl 1 = some (.cells false false [LLI P, LLI T])) (by simp (disch := first | (simp only [go_sem, Bool.and_self, eq_self]; done) | omega | (simp only [List.length_cons, List.length_nil]; omega)) only [go_sem, ↓reduceIte, Nat.reduceEqDiff, Nat.reduceAdd, Nat.reduceMul, Nat.reduceSub, Int.reduceToNat, Nat.reduceBEq, List.size_toArray, List.length_cons, List.length_nil, Bool.false_and, Bool.true_and, Bool.or_false, Bool.false_or, Bool.and_false, Bool.and_true]) ⟨by simp (disch := first | (simp only [go_sem, Bool.and_self, eq_self]; done) | omega | (simp only [List.length_cons, List.length_nil]; omega)) only [go_sem, ↓reduceIte, Nat.reduceEqDiff, Nat.reduceAdd, Nat.reduceMul, Nat.reduceSub, Int.reduceToNat, Nat.reduceBEq, List.size_toArray, List.length_cons, List.length_nil, Bool.false_and, Bool.true_and, Bool.or_false, Bool.false_or, Bool.and_false, Bool.and_true], by simp (disch := first | (simp only [go_sem, Bool.and_self, eq_self]; done) | omega | (simp only [List.length_cons, List.length_nil]; omega)) only [go_sem, ↓reduceIte, Nat.reduceEqDiff, Nat.reduceAdd, Nat.reduceMul, Nat.reduceSub, Int.reduceToNat, Nat.reduceBEq, List.size_toArray, List.length_cons, List.length_nil, Bool.false_and, Bool.true_and, Bool.or_false, Bool.false_or, Bool.and_false, Bool.and_true], by simp (disch := first | (simp only [go_sem, Bool.and_self, eq_self]; done) | omega | (simp only [List.length_cons, List.length_nil]; omega)) only [go_sem, ↓reduceIte, Nat.reduceEqDiff, Nat.reduceAdd, Nat.reduceMul, Nat.reduceSub, Int.reduceToNat, Nat.reduceBEq, List.size_toArray, List.length_cons, List.length_nil, Bool.false_and, Bool.true_and, Bool.or_false, Bool.false_or, Bool.and_false, Bool.and_true], by simp (disch := first | (simp only [go_sem, Bool.and_self, eq_self]; done) | omega | (simp only [List.length_cons, List.length_nil]; omega)) only [go_sem, ↓reduceIte, Nat.reduceEqDiff, Nat.reduceAdd, Nat.reduceMul, Nat.reduceSub, Int.reduceToNat, Nat.reduceBEq, List.size_toArray, List.length_cons, List.length_nil, Bool.false_and, Bool.true_and, Bool.or_false, Bool.false_or, Bool.and_false, Bool.and_true], by simp (disch := first | (simp only [go_sem, Bool.and_self, eq_self]; done) | omega | (simp only [List.length_cons, List.length_nil]; omega)) only [go_sem, ↓reduceIte, Nat.reduceEqDiff, Nat.reduceAdd, Nat.reduceMul, Nat.reduceSub, Int.reduceToNat, Nat.reduceBEq, List.size_toArray, List.length_cons, List.length_nil, Bool.false_and, Bool.true_and, Bool.or_false, Bool.false_or, Bool.and_false, Bool.and_true], by simp (disch := first | (simp only [go_sem, Bool.and_self, eq_self]; done) | omega | (simp only [List.length_cons, List.length_nil]; omega)) only [go_sem, ↓reduceIte, Nat.reduceEqDiff, Nat.reduceAdd, Nat.reduceMul, Nat.reduceSub, Int.reduceToNat, Nat.reduceBEq, List.size_toArray, List.length_cons, List.length_nil, Bool.false_and, Bool.true_and, Bool.or_false, Bool.false_or, Bool.and_false, Bool.and_true]; rfl, by simp (disch := first | (simp only [go_sem, Bool.and_self, eq_self]; done) | omega | (simp only [List.length_cons, List.length_nil]; omega)) only [go_sem, ↓reduceIte, Nat.reduceEqDiff, Nat.reduceAdd, Nat.reduceMul, Nat.reduceSub, Int.reduceToNat, Nat.reduceBEq, List.size_toArray, List.length_cons, List.length_nil, Bool.false_and, Bool.true_and, Bool.or_false, Bool.false_or, Bool.and_false, Bool.and_true]; decide, by simp (disch := first | (simp only [go_sem, Bool.and_self, eq_self]; done) | omega | (simp only [List.length_cons, List.length_nil]; omega)) only [go_sem, ↓reduceIte, Nat.reduceEqDiff, Nat.reduceAdd, Nat.reduceMul, Nat.reduceSub, Int.reduceToNat, Nat.reduceBEq, List.size_toArray, List.length_cons, List.length_nil, Bool.false_and, Bool.true_and, Bool.or_false, Bool.false_or, Bool.and_false, Bool.and_true]⟩ ?_
    rintro i st h hi' s11 ⟨s1, s6, s7, s8, s9, s10, hnx, b1⟩
    by_cases hlt : i < P.length
    case neg =>
      have hii : i = P.length := by omega
      rw [hii] at s10
      simp (disch := first | (simp only [go_sem, Bool.and_self, eq_self]; done) | omega | (simp only [List.length_cons, List.length_nil]; omega)) only [go_sem, ↓reduceIte, Nat.reduceEqDiff, Nat.reduceAdd, Nat.reduceMul, Nat.reduceSub, Int.reduceToNat, Nat.reduceBEq, List.size_toArray, List.length_cons, List.length_nil, Bool.false_and, Bool.true_and, Bool.or_false, Bool.false_or, Bool.and_false, Bool.and_true, s1, s6, s7, s8, s9, s10, s11, hlt]
      exact ⟨hnx, b1⟩
    have hp1 := hpow (i + 1) (by omega)
    have hp2 := hpp (i + 1)
    rw [Int.pow_succ] at hp1 hp2
    simp (disch := first | (simp only [go_sem, Bool.and_self, eq_self]; done) | omega | (simp only [List.length_cons, List.length_nil]; omega)) only [go_sem, ↓reduceIte, Nat.reduceEqDiff, Nat.reduceAdd, Nat.reduceMul, Nat.reduceSub, Int.reduceToNat, Nat.reduceBEq, List.size_toArray, List.length_cons, List.length_nil, Bool.false_and, Bool.true_and, Bool.or_false, Bool.false_or, Bool.and_false, Bool.and_true, s8, s10, s11, hlt]
    rw [ForK_normal]
    exact ⟨hlt, by simp (disch := first | (simp only [go_sem, Bool.and_self, eq_self]; done) | omega | (simp only [List.length_cons, List.length_nil]; omega)) only [go_sem, ↓reduceIte, Nat.reduceEqDiff, Nat.reduceAdd, Nat.reduceMul, Nat.reduceSub, Int.reduceToNat, Nat.reduceBEq, List.size_toArray, List.length_cons, List.length_nil, Bool.false_and, Bool.true_and, Bool.or_false, Bool.false_or, Bool.and_false, Bool.and_true, s11], by simp (disch := first | (simp only [go_sem, Bool.and_self, eq_self]; done) | omega | (simp only [List.length_cons, List.length_nil]; omega)) only [go_sem, ↓reduceIte, Nat.reduceEqDiff, Nat.reduceAdd, Nat.reduceMul, Nat.reduceSub, Int.reduceToNat, Nat.reduceBEq, List.size_toArray, List.length_cons, List.length_nil, Bool.false_and, Bool.true_and, Bool.or_false, Bool.false_or, Bool.and_false, Bool.and_true, s1], by simp (disch := first | (simp only [go_sem, Bool.and_self, eq_self]; done) | omega | (simp only [List.length_cons, List.length_nil]; omega)) only [go_sem, ↓reduceIte, Nat.reduceEqDiff, Nat.reduceAdd, Nat.reduceMul, Nat.reduceSub, Int.reduceToNat, Nat.reduceBEq, List.size_toArray, List.length_cons, List.length_nil, Bool.false_and, Bool.true_and, Bool.or_false, Bool.false_or, Bool.and_false, Bool.and_true, s6], by simp (disch := first | (simp only [go_sem, Bool.and_self, eq_self]; done) | omega | (simp only [List.length_cons, List.length_nil]; omega)) only [go_sem, ↓reduceIte, Nat.reduceEqDiff, Nat.reduceAdd, Nat.reduceMul, Nat.reduceSub, Int.reduceToNat, Nat.reduceBEq, List.size_toArray, List.length_cons, List.length_nil, Bool.false_and, Bool.true_and, Bool.or_false, Bool.false_or, Bool.and_false, Bool.and_true, s7], by simp (disch := first | (simp only [go_sem, Bool.and_self, eq_self]; done) | omega | (simp only [List.length_cons, List.length_nil]; omega)) only [go_sem, ↓reduceIte, Nat.reduceEqDiff, Nat.reduceAdd, Nat.reduceMul, Nat.reduceSub, Int.reduceToNat, Nat.reduceBEq, List.size_toArray, List.length_cons, List.length_nil, Bool.false_and, Bool.true_and, Bool.or_false, Bool.false_or, Bool.and_false, Bool.and_true, s8], by simp (disch := first | (simp only [go_sem, Bool.and_self, eq_self]; done) | omega | (simp only [List.length_cons, List.length_nil]; omega)) only [go_sem, ↓reduceIte, Nat.reduceEqDiff, Nat.reduceAdd, Nat.reduceMul, Nat.reduceSub, Int.reduceToNat, Nat.reduceBEq, List.size_toArray, List.length_cons, List.length_nil, Bool.false_and, Bool.true_and, Bool.or_false, Bool.false_or, Bool.and_false, Bool.and_true, s9], by simp (disch := first | (simp only [go_sem, Bool.and_self, eq_self]; done) | omega | (simp only [List.length_cons, List.length_nil]; omega)) only [go_sem, ↓reduceIte, Nat.reduceEqDiff, Nat.reduceAdd, Nat.reduceMul, Nat.reduceSub, Int.reduceToNat, Nat.reduceBEq, List.size_toArray, List.length_cons, List.length_nil, Bool.false_and, Bool.true_and, Bool.or_false, Bool.false_or, Bool.and_false, Bool.and_true, Int.pow_succ], hnx, b1⟩
  rintro st h ⟨s1, s6, s7, s8, s9, s10, hnx, b1⟩
  rw [show (16 : Int) ^ P.length = 16 ^ P.length from rfl] at s10
  generalize hDe : (16 : Int) ^ P.length = D at *
  simp (disch := first | (simp only [go_sem, Bool.and_self, eq_self]; done) | omega | (simp only [List.length_cons, List.length_nil]; omega)) only [go_sem, ↓reduceIte, Nat.reduceEqDiff, Nat.reduceAdd, Nat.reduceMul, Nat.reduceSub, Int.reduceToNat, Nat.reduceBEq, List.size_toArray, List.length_cons, List.length_nil, Bool.false_and, Bool.true_and, Bool.or_false, Bool.false_or, Bool.and_false, Bool.and_true, s1, s6, s7, s8, s9, s10]
  have hpx := fun x => redu_bounds (wx x).1 hD
  have hbk := fun x => redu_back (a := w x) hD
  have hcg := fun x => redu_gcd (a := w x) hD
  have hbit := fun x => (row_rowN (p := P) (x := x)).bit v.toNat (by omega)
  have hW : ∀ x, 0 ≤ w x ∧ w x ≤ 268435456 := fun x => by have := wx x; omega
  have hA : ∀ x, 0 ≤ agT P g w x ∧ agT P g w x ≤ 268435456 := fun x => by
    have := hW x
    unfold agT; split <;> omega
  have hB : ∀ x, 0 ≤ bitT P g w v x ∧ bitT P g w v x ≤ 268435456 := fun x => by
    have := hW x
    unfold bitT; split
    · rcases hbit x with h | h <;> rw [h] <;> omega
    · omega
  have sW := sumN_bounds hW
  have sA := sumN_bounds hA
  have sB := sumN_bounds hB
  refine WP_cut (fun st h => st 1 = I v ∧ st 6 = .bool false ∧ st 7 = .ptr 1 0 ∧ st 9 = LP g ∧ st 10 = I D ∧ 2 ≤ h.nx ∧ h.bl 1 = some (.cells false false [LLI P, LLI T]) ∧ st 12 = I D ∧ st 13 = I (sumN (agT P g w) (2 ^ P.length)) ∧ st 14 = I (sumN (bitT P g w v) (2 ^ P.length))) ?_ ?_
  · refine WP_for 15 (2 ^ P.length) (fun x st h => st 1 = I v ∧ st 6 = .bool false ∧ st 7 = .ptr 1 0 ∧ st 8 = I P.length ∧ st 9 = LP g ∧ st 10 = I D ∧ 2 ≤ h.nx ∧ h.bl 1 = some (.cells false false [LLI P, LLI T]) ∧ st 12 = I (sumN w x) ∧ st 13 = I (sumN (agT P g w) x) ∧ st 14 = I (sumN (bitT P g w v) x)) (by simp (disch := first | (simp only [go_sem, Bool.and_self, eq_self]; done) | omega | (simp only [List.length_cons, List.length_nil]; omega)) only [go_sem, ↓reduceIte, Nat.reduceEqDiff, Nat.reduceAdd, Nat.reduceMul, Nat.reduceSub, Int.reduceToNat, Nat.reduceBEq, List.size_toArray, List.length_cons, List.length_nil, Bool.false_and, Bool.true_and, Bool.or_false, Bool.false_or, Bool.and_false, Bool.and_true]) ⟨by simp (disch := first | (simp only [go_sem, Bool.and_self, eq_self]; done) | omega | (simp only [List.length_cons, List.length_nil]; omega)) only [go_sem, ↓reduceIte, Nat.reduceEqDiff, Nat.reduceAdd, Nat.reduceMul, Nat.reduceSub, Int.reduceToNat, Nat.reduceBEq, List.size_toArray, List.length_cons, List.length_nil, Bool.false_and, Bool.true_and, Bool.or_false, Bool.false_or, Bool.and_false, Bool.and_true, s1], by simp (disch := first | (simp only [go_sem, Bool.and_self, eq_self]; done) | omega | (simp only [List.length_cons, List.length_nil]; omega)) only [go_sem, ↓reduceIte, Nat.reduceEqDiff, Nat.reduceAdd, Nat.reduceMul, Nat.reduceSub, Int.reduceToNat, Nat.reduceBEq, List.size_toArray, List.length_cons, List.length_nil, Bool.false_and, Bool.true_and, Bool.or_false, Bool.false_or, Bool.and_false, Bool.and_true, s6], by simp (disch := first | (simp only [go_sem, Bool.and_self, eq_self]; done) | omega | (simp only [List.length_cons, List.length_nil]; omega)) only [go_sem, ↓reduceIte, Nat.reduceEqDiff, Nat.reduceAdd, Nat.reduceMul, Nat.reduceSub, Int.reduceToNat, Nat.reduceBEq, List.size_toArray, List.length_cons, List.length_nil, Bool.false_and, Bool.true_and, Bool.or_false, Bool.false_or, Bool.and_false, Bool.and_true, s7], by simp (disch := first | (simp only [go_sem, Bool.and_self, eq_self]; done) | omega | (simp only [List.length_cons, List.length_nil]; omega)) only [go_sem, ↓reduceIte, Nat.reduceEqDiff, Nat.reduceAdd, Nat.reduceMul, Nat.reduceSub, Int.reduceToNat, Nat.reduceBEq, List.size_toArray, List.length_cons, List.length_nil, Bool.false_and, Bool.true_and, Bool.or_false, Bool.false_or, Bool.and_false, Bool.and_true, s8], by simp (disch := first | (simp only [go_sem, Bool.and_self, eq_self]; done) | omega | (simp only [List.length_cons, List.length_nil]; omega)) only [go_sem, ↓reduceIte, Nat.reduceEqDiff, Nat.reduceAdd, Nat.reduceMul, Nat.reduceSub, Int.reduceToNat, Nat.reduceBEq, List.size_toArray, List.length_cons, List.length_nil, Bool.false_and, Bool.true_and, Bool.or_false, Bool.false_or, Bool.and_false, Bool.and_true, s9], by simp (disch := first | (simp only [go_sem, Bool.and_self, eq_self]; done) | omega | (simp only [List.length_cons, List.length_nil]; omega)) only [go_sem, ↓reduceIte, Nat.reduceEqDiff, Nat.reduceAdd, Nat.reduceMul, Nat.reduceSub, Int.reduceToNat, Nat.reduceBEq, List.size_toArray, List.length_cons, List.length_nil, Bool.false_and, Bool.true_and, Bool.or_false, Bool.false_or, Bool.and_false, Bool.and_true, s10], hnx, b1, by simp (disch := first | (simp only [go_sem, Bool.and_self, eq_self]; done) | omega | (simp only [List.length_cons, List.length_nil]; omega)) only [go_sem, ↓reduceIte, Nat.reduceEqDiff, Nat.reduceAdd, Nat.reduceMul, Nat.reduceSub, Int.reduceToNat, Nat.reduceBEq, List.size_toArray, List.length_cons, List.length_nil, Bool.false_and, Bool.true_and, Bool.or_false, Bool.false_or, Bool.and_false, Bool.and_true]; rfl, by simp (disch := first | (simp only [go_sem, Bool.and_self, eq_self]; done) | omega | (simp only [List.length_cons, List.length_nil]; omega)) only [go_sem, ↓reduceIte, Nat.reduceEqDiff, Nat.reduceAdd, Nat.reduceMul, Nat.reduceSub, Int.reduceToNat, Nat.reduceBEq, List.size_toArray, List.length_cons, List.length_nil, Bool.false_and, Bool.true_and, Bool.or_false, Bool.false_or, Bool.and_false, Bool.and_true]; rfl, by simp (disch := first | (simp only [go_sem, Bool.and_self, eq_self]; done) | omega | (simp only [List.length_cons, List.length_nil]; omega)) only [go_sem, ↓reduceIte, Nat.reduceEqDiff, Nat.reduceAdd, Nat.reduceMul, Nat.reduceSub, Int.reduceToNat, Nat.reduceBEq, List.size_toArray, List.length_cons, List.length_nil, Bool.false_and, Bool.true_and, Bool.or_false, Bool.false_or, Bool.and_false, Bool.and_true]; rfl⟩ ?_
    rintro x st h hx s15 ⟨s1, s6, s7, s8, s9, s10, hnx, b1, s12, s13, s14⟩
    by_cases hlt : x < 2 ^ P.length
    case neg =>
      have hxx : x = 2 ^ P.length := by omega
      rw [hxx] at s12 s13 s14
      have htot' : sumN w (2 ^ P.length) = D := htot
      rw [htot'] at s12
      simp (disch := first | (simp only [go_sem, Bool.and_self, eq_self]; done) | omega | (simp only [List.length_cons, List.length_nil]; omega)) only [go_sem, ↓reduceIte, Nat.reduceEqDiff, Nat.reduceAdd, Nat.reduceMul, Nat.reduceSub, Int.reduceToNat, Nat.reduceBEq, List.size_toArray, List.length_cons, List.length_nil, Bool.false_and, Bool.true_and, Bool.or_false, Bool.false_or, Bool.and_false, Bool.and_true, s1, s6, s7, s8, s9, s10, s15, esh, hlt, s12, s13, s14]
      exact ⟨hnx, b1⟩
    have k33 := fun h h' K => ConW_any (h := h) (h' := h') (K := K) (lift (by decide) (f33_con P.length x hn1.2 (by omega))) rfl
    have hml : (rowN P.length x).length ≤ maxLen := by rw [rowN_len]; omega
    have hix : ∀ (h : Hp), importR h (LI (rowN P.length x)) = (LI (rowN P.length x), h) := fun _ => rfl
    have k18 := fun h h' K => ConW_num (h := h) (h' := h') (K := K) (lift (by decide) (f18_con P T (rowN P.length x) okp okt hml)) (by rw [hJ]; rfl)
    rw [hJ, redu_def] at k18
    have p1 := hpx x
    have p2 := wx x
    have k34 := fun h h' K => ConW_num (h := h) (h' := h') (K := K) (lift (by decide) (f34_con _ _ (by omega) (by omega) (hcg x))) rfl
    obtain ⟨m1, m2, m3⟩ := hbk x
    have hle : w x / gcdI (w x) D ≤ D / gcdI (w x) D := Int.ediv_le_ediv (gcdI_pos hD) p2.2
    have z1 := sW x
    have z2 := sA x
    have z3 := sB x
    have e1 : sumN w (x + 1) = sumN w x + w x := rfl
    have e2 : sumN (agT P g w) (x + 1) = sumN (agT P g w) x + agT P g w x := rfl
    have e3 : sumN (bitT P g w v) (x + 1) = sumN (bitT P g w v) x + bitT P g w v x := rfl
    have e4 : agT P g w x = if agreeB (rowN P.length x) g then w x else 0 := rfl
    have e5 : bitT P g w v x = if agreeB (rowN P.length x) g then w x * nth (rowN P.length x) v.toNat else 0 := rfl
    have hvr : v < (rowN P.length x).length := by rw [rowN_len]; exact hv.2
    have hbx := hbit x
    have hB1 := hB x
    have hgx : 0 < gcdI (w x) D ∧ gcdI (w x) D ≤ D := ⟨gcdI_pos hD, gcdI_le hD⟩
    generalize w x / gcdI (w x) D = a at *
    generalize D / gcdI (w x) D = c at *
    generalize gcdI (w x) D = gx at *
    have n1 : ¬ a < 0 := by omega
    have n2 : ¬ c < a := by omega
    have n3 : ¬ c = 0 := by omega
    have u1 : ¬ 1 = h.nx := by omega
    simp (disch := first | (simp only [go_sem, Bool.and_self, eq_self]; done) | omega | (simp only [List.length_cons, List.length_nil]; omega)) only [go_sem, ↓reduceIte, Nat.reduceEqDiff, Nat.reduceAdd, Nat.reduceMul, Nat.reduceSub, Int.reduceToNat, Nat.reduceBEq, List.size_toArray, List.length_cons, List.length_nil, Bool.false_and, Bool.true_and, Bool.or_false, Bool.false_or, Bool.and_false, Bool.and_true, s1, s6, s7, s8, s9, s10, s15, esh, hlt, k33, hix, b1, k18, k34, n1, n2, n3, m1, m2, m3, u1, s12, s13, s14]
    refine WP_cut (fun st h => st 1 = I v ∧ st 6 = .bool false ∧ st 7 = .ptr 1 0 ∧ st 8 = I P.length ∧ st 9 = LP g ∧ st 10 = I D ∧ st 15 = I x ∧ st 16 = LI (rowN P.length x) ∧ 2 ≤ h.nx ∧ h.bl 1 = some (.cells false false [LLI P, LLI T]) ∧ st 12 = I (sumN w (x + 1)) ∧ st 13 = I (sumN (agT P g w) x) ∧ st 14 = I (sumN (bitT P g w v) x) ∧ st 19 = I (w x) ∧ st 20 = .bool (agreeB (rowN P.length x) g)) ?_ ?_
    · refine WP_for 21 g.length (fun i st h => st 1 = I v ∧ st 6 = .bool false ∧ st 7 = .ptr 1 0 ∧ st 8 = I P.length ∧ st 9 = LP g ∧ st 10 = I D ∧ st 15 = I x ∧ st 16 = LI (rowN P.length x) ∧ 2 ≤ h.nx ∧ h.bl 1 = some (.cells false false [LLI P, LLI T]) ∧ st 12 = I (sumN w (x + 1)) ∧ st 13 = I (sumN (agT P g w) x) ∧ st 14 = I (sumN (bitT P g w v) x) ∧ st 19 = I (w x) ∧ st 20 = .bool (agP (rowN P.length x) g i)) (by simp (disch := first | (simp only [go_sem, Bool.and_self, eq_self]; done) | omega | (simp only [List.length_cons, List.length_nil]; omega)) only [go_sem, ↓reduceIte, Nat.reduceEqDiff, Nat.reduceAdd, Nat.reduceMul, Nat.reduceSub, Int.reduceToNat, Nat.reduceBEq, List.size_toArray, List.length_cons, List.length_nil, Bool.false_and, Bool.true_and, Bool.or_false, Bool.false_or, Bool.and_false, Bool.and_true]) ⟨by simp (disch := first | (simp only [go_sem, Bool.and_self, eq_self]; done) | omega | (simp only [List.length_cons, List.length_nil]; omega)) only [go_sem, ↓reduceIte, Nat.reduceEqDiff, Nat.reduceAdd, Nat.reduceMul, Nat.reduceSub, Int.reduceToNat, Nat.reduceBEq, List.size_toArray, List.length_cons, List.length_nil, Bool.false_and, Bool.true_and, Bool.or_false, Bool.false_or, Bool.and_false, Bool.and_true, s1, s6, s7, s8, s9, s10, s15], by simp (disch := first | (simp only [go_sem, Bool.and_self, eq_self]; done) | omega | (simp only [List.length_cons, List.length_nil]; omega)) only [go_sem, ↓reduceIte, Nat.reduceEqDiff, Nat.reduceAdd, Nat.reduceMul, Nat.reduceSub, Int.reduceToNat, Nat.reduceBEq, List.size_toArray, List.length_cons, List.length_nil, Bool.false_and, Bool.true_and, Bool.or_false, Bool.false_or, Bool.and_false, Bool.and_true, s1, s6, s7, s8, s9, s10, s15], by simp (disch := first | (simp only [go_sem, Bool.and_self, eq_self]; done) | omega | (simp only [List.length_cons, List.length_nil]; omega)) only [go_sem, ↓reduceIte, Nat.reduceEqDiff, Nat.reduceAdd, Nat.reduceMul, Nat.reduceSub, Int.reduceToNat, Nat.reduceBEq, List.size_toArray, List.length_cons, List.length_nil, Bool.false_and, Bool.true_and, Bool.or_false, Bool.false_or, Bool.and_false, Bool.and_true, s1, s6, s7, s8, s9, s10, s15], by simp (disch := first | (simp only [go_sem, Bool.and_self, eq_self]; done) | omega | (simp only [List.length_cons, List.length_nil]; omega)) only [go_sem, ↓reduceIte, Nat.reduceEqDiff, Nat.reduceAdd, Nat.reduceMul, Nat.reduceSub, Int.reduceToNat, Nat.reduceBEq, List.size_toArray, List.length_cons, List.length_nil, Bool.false_and, Bool.true_and, Bool.or_false, Bool.false_or, Bool.and_false, Bool.and_true, s1, s6, s7, s8, s9, s10, s15], by simp (disch := first | (simp only [go_sem, Bool.and_self, eq_self]; done) | omega | (simp only [List.length_cons, List.length_nil]; omega)) only [go_sem, ↓reduceIte, Nat.reduceEqDiff, Nat.reduceAdd, Nat.reduceMul, Nat.reduceSub, Int.reduceToNat, Nat.reduceBEq, List.size_toArray, List.length_cons, List.length_nil, Bool.false_and, Bool.true_and, Bool.or_false, Bool.false_or, Bool.and_false, Bool.and_true, s1, s6, s7, s8, s9, s10, s15], by simp (disch := first | (simp only [go_sem, Bool.and_self, eq_self]; done) | omega | (simp only [List.length_cons, List.length_nil]; omega)) only [go_sem, ↓reduceIte, Nat.reduceEqDiff, Nat.reduceAdd, Nat.reduceMul, Nat.reduceSub, Int.reduceToNat, Nat.reduceBEq, List.size_toArray, List.length_cons, List.length_nil, Bool.false_and, Bool.true_and, Bool.or_false, Bool.false_or, Bool.and_false, Bool.and_true, s1, s6, s7, s8, s9, s10, s15], by simp (disch := first | (simp only [go_sem, Bool.and_self, eq_self]; done) | omega | (simp only [List.length_cons, List.length_nil]; omega)) only [go_sem, ↓reduceIte, Nat.reduceEqDiff, Nat.reduceAdd, Nat.reduceMul, Nat.reduceSub, Int.reduceToNat, Nat.reduceBEq, List.size_toArray, List.length_cons, List.length_nil, Bool.false_and, Bool.true_and, Bool.or_false, Bool.false_or, Bool.and_false, Bool.and_true, s1, s6, s7, s8, s9, s10, s15], by simp (disch := first | (simp only [go_sem, Bool.and_self, eq_self]; done) | omega | (simp only [List.length_cons, List.length_nil]; omega)) only [go_sem, ↓reduceIte, Nat.reduceEqDiff, Nat.reduceAdd, Nat.reduceMul, Nat.reduceSub, Int.reduceToNat, Nat.reduceBEq, List.size_toArray, List.length_cons, List.length_nil, Bool.false_and, Bool.true_and, Bool.or_false, Bool.false_or, Bool.and_false, Bool.and_true, s1, s6, s7, s8, s9, s10, s15], by simp (disch := first | (simp only [go_sem, Bool.and_self, eq_self]; done) | omega | (simp only [List.length_cons, List.length_nil]; omega)) only [go_sem, ↓reduceIte, Nat.reduceEqDiff, Nat.reduceAdd, Nat.reduceMul, Nat.reduceSub, Int.reduceToNat, Nat.reduceBEq, List.size_toArray, List.length_cons, List.length_nil, Bool.false_and, Bool.true_and, Bool.or_false, Bool.false_or, Bool.and_false, Bool.and_true]; omega, by simp (disch := first | (simp only [go_sem, Bool.and_self, eq_self]; done) | omega | (simp only [List.length_cons, List.length_nil]; omega)) only [go_sem, ↓reduceIte, Nat.reduceEqDiff, Nat.reduceAdd, Nat.reduceMul, Nat.reduceSub, Int.reduceToNat, Nat.reduceBEq, List.size_toArray, List.length_cons, List.length_nil, Bool.false_and, Bool.true_and, Bool.or_false, Bool.false_or, Bool.and_false, Bool.and_true, b1, u1], by simp (disch := first | (simp only [go_sem, Bool.and_self, eq_self]; done) | omega | (simp only [List.length_cons, List.length_nil]; omega)) only [go_sem, ↓reduceIte, Nat.reduceEqDiff, Nat.reduceAdd, Nat.reduceMul, Nat.reduceSub, Int.reduceToNat, Nat.reduceBEq, List.size_toArray, List.length_cons, List.length_nil, Bool.false_and, Bool.true_and, Bool.or_false, Bool.false_or, Bool.and_false, Bool.and_true, e1], by simp (disch := first | (simp only [go_sem, Bool.and_self, eq_self]; done) | omega | (simp only [List.length_cons, List.length_nil]; omega)) only [go_sem, ↓reduceIte, Nat.reduceEqDiff, Nat.reduceAdd, Nat.reduceMul, Nat.reduceSub, Int.reduceToNat, Nat.reduceBEq, List.size_toArray, List.length_cons, List.length_nil, Bool.false_and, Bool.true_and, Bool.or_false, Bool.false_or, Bool.and_false, Bool.and_true, s13], by simp (disch := first | (simp only [go_sem, Bool.and_self, eq_self]; done) | omega | (simp only [List.length_cons, List.length_nil]; omega)) only [go_sem, ↓reduceIte, Nat.reduceEqDiff, Nat.reduceAdd, Nat.reduceMul, Nat.reduceSub, Int.reduceToNat, Nat.reduceBEq, List.size_toArray, List.length_cons, List.length_nil, Bool.false_and, Bool.true_and, Bool.or_false, Bool.false_or, Bool.and_false, Bool.and_true, s14], by simp (disch := first | (simp only [go_sem, Bool.and_self, eq_self]; done) | omega | (simp only [List.length_cons, List.length_nil]; omega)) only [go_sem, ↓reduceIte, Nat.reduceEqDiff, Nat.reduceAdd, Nat.reduceMul, Nat.reduceSub, Int.reduceToNat, Nat.reduceBEq, List.size_toArray, List.length_cons, List.length_nil, Bool.false_and, Bool.true_and, Bool.or_false, Bool.false_or, Bool.and_false, Bool.and_true], by simp (disch := first | (simp only [go_sem, Bool.and_self, eq_self]; done) | omega | (simp only [List.length_cons, List.length_nil]; omega)) only [go_sem, ↓reduceIte, Nat.reduceEqDiff, Nat.reduceAdd, Nat.reduceMul, Nat.reduceSub, Int.reduceToNat, Nat.reduceBEq, List.size_toArray, List.length_cons, List.length_nil, Bool.false_and, Bool.true_and, Bool.or_false, Bool.false_or, Bool.and_false, Bool.and_true]; rfl⟩ ?_
      rintro i st h hi' s21 ⟨s1, s6, s7, s8, s9, s10, s15, s16, hnx, b1, s12, s13, s14, s19, s20⟩
      by_cases hlg : i < g.length
      case neg =>
        have hig : i = g.length := by omega
        rw [hig, agP_all] at s20
        simp (disch := first | (simp only [go_sem, Bool.and_self, eq_self]; done) | omega | (simp only [List.length_cons, List.length_nil]; omega)) only [go_sem, ↓reduceIte, Nat.reduceEqDiff, Nat.reduceAdd, Nat.reduceMul, Nat.reduceSub, Int.reduceToNat, Nat.reduceBEq, List.size_toArray, List.length_cons, List.length_nil, Bool.false_and, Bool.true_and, Bool.or_false, Bool.false_or, Bool.and_false, Bool.and_true, s1, s6, s7, s8, s9, s10, s15, s16, s12, s13, s14, s19, s20, s21, hlg]
        exact ⟨hnx, b1⟩
      obtain ⟨k0, k1⟩ := facts_in hfg _ (nth_mem hlg)
      have k1' : (nth g i).1 < (rowN P.length x).length := by rw [rowN_len]; exact k1
      have g0 : (eP (nth g i)) = [I (nth g i).1, I (nth g i).2] := rfl
      cases ha : agP (rowN P.length x) g i with
      | false =>
        rw [ha] at s20
        simp (disch := first | (simp only [go_sem, Bool.and_self, eq_self]; done) | omega | (simp only [List.length_cons, List.length_nil]; omega)) only [go_sem, ↓reduceIte, Nat.reduceEqDiff, Nat.reduceAdd, Nat.reduceMul, Nat.reduceSub, Int.reduceToNat, Nat.reduceBEq, List.size_toArray, List.length_cons, List.length_nil, Bool.false_and, Bool.true_and, Bool.or_false, Bool.false_or, Bool.and_false, Bool.and_true, s1, s6, s7, s8, s9, s10, s15, s16, s20, s21, hlg]
        rw [ForK_normal]
        exact ⟨hlg, by simp (disch := first | (simp only [go_sem, Bool.and_self, eq_self]; done) | omega | (simp only [List.length_cons, List.length_nil]; omega)) only [go_sem, ↓reduceIte, Nat.reduceEqDiff, Nat.reduceAdd, Nat.reduceMul, Nat.reduceSub, Int.reduceToNat, Nat.reduceBEq, List.size_toArray, List.length_cons, List.length_nil, Bool.false_and, Bool.true_and, Bool.or_false, Bool.false_or, Bool.and_false, Bool.and_true, s21], by simp (disch := first | (simp only [go_sem, Bool.and_self, eq_self]; done) | omega | (simp only [List.length_cons, List.length_nil]; omega)) only [go_sem, ↓reduceIte, Nat.reduceEqDiff, Nat.reduceAdd, Nat.reduceMul, Nat.reduceSub, Int.reduceToNat, Nat.reduceBEq, List.size_toArray, List.length_cons, List.length_nil, Bool.false_and, Bool.true_and, Bool.or_false, Bool.false_or, Bool.and_false, Bool.and_true, s1], by simp (disch := first | (simp only [go_sem, Bool.and_self, eq_self]; done) | omega | (simp only [List.length_cons, List.length_nil]; omega)) only [go_sem, ↓reduceIte, Nat.reduceEqDiff, Nat.reduceAdd, Nat.reduceMul, Nat.reduceSub, Int.reduceToNat, Nat.reduceBEq, List.size_toArray, List.length_cons, List.length_nil, Bool.false_and, Bool.true_and, Bool.or_false, Bool.false_or, Bool.and_false, Bool.and_true, s6], by simp (disch := first | (simp only [go_sem, Bool.and_self, eq_self]; done) | omega | (simp only [List.length_cons, List.length_nil]; omega)) only [go_sem, ↓reduceIte, Nat.reduceEqDiff, Nat.reduceAdd, Nat.reduceMul, Nat.reduceSub, Int.reduceToNat, Nat.reduceBEq, List.size_toArray, List.length_cons, List.length_nil, Bool.false_and, Bool.true_and, Bool.or_false, Bool.false_or, Bool.and_false, Bool.and_true, s7], by simp (disch := first | (simp only [go_sem, Bool.and_self, eq_self]; done) | omega | (simp only [List.length_cons, List.length_nil]; omega)) only [go_sem, ↓reduceIte, Nat.reduceEqDiff, Nat.reduceAdd, Nat.reduceMul, Nat.reduceSub, Int.reduceToNat, Nat.reduceBEq, List.size_toArray, List.length_cons, List.length_nil, Bool.false_and, Bool.true_and, Bool.or_false, Bool.false_or, Bool.and_false, Bool.and_true, s8], by simp (disch := first | (simp only [go_sem, Bool.and_self, eq_self]; done) | omega | (simp only [List.length_cons, List.length_nil]; omega)) only [go_sem, ↓reduceIte, Nat.reduceEqDiff, Nat.reduceAdd, Nat.reduceMul, Nat.reduceSub, Int.reduceToNat, Nat.reduceBEq, List.size_toArray, List.length_cons, List.length_nil, Bool.false_and, Bool.true_and, Bool.or_false, Bool.false_or, Bool.and_false, Bool.and_true, s9], by simp (disch := first | (simp only [go_sem, Bool.and_self, eq_self]; done) | omega | (simp only [List.length_cons, List.length_nil]; omega)) only [go_sem, ↓reduceIte, Nat.reduceEqDiff, Nat.reduceAdd, Nat.reduceMul, Nat.reduceSub, Int.reduceToNat, Nat.reduceBEq, List.size_toArray, List.length_cons, List.length_nil, Bool.false_and, Bool.true_and, Bool.or_false, Bool.false_or, Bool.and_false, Bool.and_true, s10], by simp (disch := first | (simp only [go_sem, Bool.and_self, eq_self]; done) | omega | (simp only [List.length_cons, List.length_nil]; omega)) only [go_sem, ↓reduceIte, Nat.reduceEqDiff, Nat.reduceAdd, Nat.reduceMul, Nat.reduceSub, Int.reduceToNat, Nat.reduceBEq, List.size_toArray, List.length_cons, List.length_nil, Bool.false_and, Bool.true_and, Bool.or_false, Bool.false_or, Bool.and_false, Bool.and_true, s15], by simp (disch := first | (simp only [go_sem, Bool.and_self, eq_self]; done) | omega | (simp only [List.length_cons, List.length_nil]; omega)) only [go_sem, ↓reduceIte, Nat.reduceEqDiff, Nat.reduceAdd, Nat.reduceMul, Nat.reduceSub, Int.reduceToNat, Nat.reduceBEq, List.size_toArray, List.length_cons, List.length_nil, Bool.false_and, Bool.true_and, Bool.or_false, Bool.false_or, Bool.and_false, Bool.and_true, s16], hnx, b1, by simp (disch := first | (simp only [go_sem, Bool.and_self, eq_self]; done) | omega | (simp only [List.length_cons, List.length_nil]; omega)) only [go_sem, ↓reduceIte, Nat.reduceEqDiff, Nat.reduceAdd, Nat.reduceMul, Nat.reduceSub, Int.reduceToNat, Nat.reduceBEq, List.size_toArray, List.length_cons, List.length_nil, Bool.false_and, Bool.true_and, Bool.or_false, Bool.false_or, Bool.and_false, Bool.and_true, s12], by simp (disch := first | (simp only [go_sem, Bool.and_self, eq_self]; done) | omega | (simp only [List.length_cons, List.length_nil]; omega)) only [go_sem, ↓reduceIte, Nat.reduceEqDiff, Nat.reduceAdd, Nat.reduceMul, Nat.reduceSub, Int.reduceToNat, Nat.reduceBEq, List.size_toArray, List.length_cons, List.length_nil, Bool.false_and, Bool.true_and, Bool.or_false, Bool.false_or, Bool.and_false, Bool.and_true, s13], by simp (disch := first | (simp only [go_sem, Bool.and_self, eq_self]; done) | omega | (simp only [List.length_cons, List.length_nil]; omega)) only [go_sem, ↓reduceIte, Nat.reduceEqDiff, Nat.reduceAdd, Nat.reduceMul, Nat.reduceSub, Int.reduceToNat, Nat.reduceBEq, List.size_toArray, List.length_cons, List.length_nil, Bool.false_and, Bool.true_and, Bool.or_false, Bool.false_or, Bool.and_false, Bool.and_true, s14], by simp (disch := first | (simp only [go_sem, Bool.and_self, eq_self]; done) | omega | (simp only [List.length_cons, List.length_nil]; omega)) only [go_sem, ↓reduceIte, Nat.reduceEqDiff, Nat.reduceAdd, Nat.reduceMul, Nat.reduceSub, Int.reduceToNat, Nat.reduceBEq, List.size_toArray, List.length_cons, List.length_nil, Bool.false_and, Bool.true_and, Bool.or_false, Bool.false_or, Bool.and_false, Bool.and_true, s19], by simp (disch := first | (simp only [go_sem, Bool.and_self, eq_self]; done) | omega | (simp only [List.length_cons, List.length_nil]; omega)) only [go_sem, ↓reduceIte, Nat.reduceEqDiff, Nat.reduceAdd, Nat.reduceMul, Nat.reduceSub, Int.reduceToNat, Nat.reduceBEq, List.size_toArray, List.length_cons, List.length_nil, Bool.false_and, Bool.true_and, Bool.or_false, Bool.false_or, Bool.and_false, Bool.and_true, agP_succ, ha]⟩
      | true =>
        rw [ha] at s20
        simp (disch := first | (simp only [go_sem, Bool.and_self, eq_self]; done) | omega | (simp only [List.length_cons, List.length_nil]; omega)) only [go_sem, ↓reduceIte, Nat.reduceEqDiff, Nat.reduceAdd, Nat.reduceMul, Nat.reduceSub, Int.reduceToNat, Nat.reduceBEq, List.size_toArray, List.length_cons, List.length_nil, Bool.false_and, Bool.true_and, Bool.or_false, Bool.false_or, Bool.and_false, Bool.and_true, s1, s6, s7, s8, s9, s10, s15, s16, s20, s21, hlg, g0, k0, k1', List.drop_succ_cons, List.drop_zero]
        rw [ForK_normal]
        exact ⟨hlg, by simp (disch := first | (simp only [go_sem, Bool.and_self, eq_self]; done) | omega | (simp only [List.length_cons, List.length_nil]; omega)) only [go_sem, ↓reduceIte, Nat.reduceEqDiff, Nat.reduceAdd, Nat.reduceMul, Nat.reduceSub, Int.reduceToNat, Nat.reduceBEq, List.size_toArray, List.length_cons, List.length_nil, Bool.false_and, Bool.true_and, Bool.or_false, Bool.false_or, Bool.and_false, Bool.and_true, s21], by simp (disch := first | (simp only [go_sem, Bool.and_self, eq_self]; done) | omega | (simp only [List.length_cons, List.length_nil]; omega)) only [go_sem, ↓reduceIte, Nat.reduceEqDiff, Nat.reduceAdd, Nat.reduceMul, Nat.reduceSub, Int.reduceToNat, Nat.reduceBEq, List.size_toArray, List.length_cons, List.length_nil, Bool.false_and, Bool.true_and, Bool.or_false, Bool.false_or, Bool.and_false, Bool.and_true, s1], by simp (disch := first | (simp only [go_sem, Bool.and_self, eq_self]; done) | omega | (simp only [List.length_cons, List.length_nil]; omega)) only [go_sem, ↓reduceIte, Nat.reduceEqDiff, Nat.reduceAdd, Nat.reduceMul, Nat.reduceSub, Int.reduceToNat, Nat.reduceBEq, List.size_toArray, List.length_cons, List.length_nil, Bool.false_and, Bool.true_and, Bool.or_false, Bool.false_or, Bool.and_false, Bool.and_true, s6], by simp (disch := first | (simp only [go_sem, Bool.and_self, eq_self]; done) | omega | (simp only [List.length_cons, List.length_nil]; omega)) only [go_sem, ↓reduceIte, Nat.reduceEqDiff, Nat.reduceAdd, Nat.reduceMul, Nat.reduceSub, Int.reduceToNat, Nat.reduceBEq, List.size_toArray, List.length_cons, List.length_nil, Bool.false_and, Bool.true_and, Bool.or_false, Bool.false_or, Bool.and_false, Bool.and_true, s7], by simp (disch := first | (simp only [go_sem, Bool.and_self, eq_self]; done) | omega | (simp only [List.length_cons, List.length_nil]; omega)) only [go_sem, ↓reduceIte, Nat.reduceEqDiff, Nat.reduceAdd, Nat.reduceMul, Nat.reduceSub, Int.reduceToNat, Nat.reduceBEq, List.size_toArray, List.length_cons, List.length_nil, Bool.false_and, Bool.true_and, Bool.or_false, Bool.false_or, Bool.and_false, Bool.and_true, s8], by simp (disch := first | (simp only [go_sem, Bool.and_self, eq_self]; done) | omega | (simp only [List.length_cons, List.length_nil]; omega)) only [go_sem, ↓reduceIte, Nat.reduceEqDiff, Nat.reduceAdd, Nat.reduceMul, Nat.reduceSub, Int.reduceToNat, Nat.reduceBEq, List.size_toArray, List.length_cons, List.length_nil, Bool.false_and, Bool.true_and, Bool.or_false, Bool.false_or, Bool.and_false, Bool.and_true, s9], by simp (disch := first | (simp only [go_sem, Bool.and_self, eq_self]; done) | omega | (simp only [List.length_cons, List.length_nil]; omega)) only [go_sem, ↓reduceIte, Nat.reduceEqDiff, Nat.reduceAdd, Nat.reduceMul, Nat.reduceSub, Int.reduceToNat, Nat.reduceBEq, List.size_toArray, List.length_cons, List.length_nil, Bool.false_and, Bool.true_and, Bool.or_false, Bool.false_or, Bool.and_false, Bool.and_true, s10], by simp (disch := first | (simp only [go_sem, Bool.and_self, eq_self]; done) | omega | (simp only [List.length_cons, List.length_nil]; omega)) only [go_sem, ↓reduceIte, Nat.reduceEqDiff, Nat.reduceAdd, Nat.reduceMul, Nat.reduceSub, Int.reduceToNat, Nat.reduceBEq, List.size_toArray, List.length_cons, List.length_nil, Bool.false_and, Bool.true_and, Bool.or_false, Bool.false_or, Bool.and_false, Bool.and_true, s15], by simp (disch := first | (simp only [go_sem, Bool.and_self, eq_self]; done) | omega | (simp only [List.length_cons, List.length_nil]; omega)) only [go_sem, ↓reduceIte, Nat.reduceEqDiff, Nat.reduceAdd, Nat.reduceMul, Nat.reduceSub, Int.reduceToNat, Nat.reduceBEq, List.size_toArray, List.length_cons, List.length_nil, Bool.false_and, Bool.true_and, Bool.or_false, Bool.false_or, Bool.and_false, Bool.and_true, s16], hnx, b1, by simp (disch := first | (simp only [go_sem, Bool.and_self, eq_self]; done) | omega | (simp only [List.length_cons, List.length_nil]; omega)) only [go_sem, ↓reduceIte, Nat.reduceEqDiff, Nat.reduceAdd, Nat.reduceMul, Nat.reduceSub, Int.reduceToNat, Nat.reduceBEq, List.size_toArray, List.length_cons, List.length_nil, Bool.false_and, Bool.true_and, Bool.or_false, Bool.false_or, Bool.and_false, Bool.and_true, s12], by simp (disch := first | (simp only [go_sem, Bool.and_self, eq_self]; done) | omega | (simp only [List.length_cons, List.length_nil]; omega)) only [go_sem, ↓reduceIte, Nat.reduceEqDiff, Nat.reduceAdd, Nat.reduceMul, Nat.reduceSub, Int.reduceToNat, Nat.reduceBEq, List.size_toArray, List.length_cons, List.length_nil, Bool.false_and, Bool.true_and, Bool.or_false, Bool.false_or, Bool.and_false, Bool.and_true, s13], by simp (disch := first | (simp only [go_sem, Bool.and_self, eq_self]; done) | omega | (simp only [List.length_cons, List.length_nil]; omega)) only [go_sem, ↓reduceIte, Nat.reduceEqDiff, Nat.reduceAdd, Nat.reduceMul, Nat.reduceSub, Int.reduceToNat, Nat.reduceBEq, List.size_toArray, List.length_cons, List.length_nil, Bool.false_and, Bool.true_and, Bool.or_false, Bool.false_or, Bool.and_false, Bool.and_true, s14], by simp (disch := first | (simp only [go_sem, Bool.and_self, eq_self]; done) | omega | (simp only [List.length_cons, List.length_nil]; omega)) only [go_sem, ↓reduceIte, Nat.reduceEqDiff, Nat.reduceAdd, Nat.reduceMul, Nat.reduceSub, Int.reduceToNat, Nat.reduceBEq, List.size_toArray, List.length_cons, List.length_nil, Bool.false_and, Bool.true_and, Bool.or_false, Bool.false_or, Bool.and_false, Bool.and_true, s19], by simp (disch := first | (simp only [go_sem, Bool.and_self, eq_self]; done) | omega | (simp only [List.length_cons, List.length_nil]; omega)) only [go_sem, ↓reduceIte, Nat.reduceEqDiff, Nat.reduceAdd, Nat.reduceMul, Nat.reduceSub, Int.reduceToNat, Nat.reduceBEq, List.size_toArray, List.length_cons, List.length_nil, Bool.false_and, Bool.true_and, Bool.or_false, Bool.false_or, Bool.and_false, Bool.and_true, agP_succ, ha]⟩
    rintro st h ⟨s1, s6, s7, s8, s9, s10, s15, s16, hnx, b1, s12, s13, s14, s19, s20⟩
    cases ha : agreeB (rowN P.length x) g with
    | false =>
      rw [ha] at s20 e4 e5
      simp only [Bool.false_eq_true, if_false] at e4 e5
      rw [e4, Int.add_zero] at e2
      rw [e5, Int.add_zero] at e3
      simp (disch := first | (simp only [go_sem, Bool.and_self, eq_self]; done) | omega | (simp only [List.length_cons, List.length_nil]; omega)) only [go_sem, ↓reduceIte, Nat.reduceEqDiff, Nat.reduceAdd, Nat.reduceMul, Nat.reduceSub, Int.reduceToNat, Nat.reduceBEq, List.size_toArray, List.length_cons, List.length_nil, Bool.false_and, Bool.true_and, Bool.or_false, Bool.false_or, Bool.and_false, Bool.and_true, s1, s6, s7, s8, s9, s10, s15, s16, s20]
      rw [ForK_normal]
      exact ⟨hlt, by simp (disch := first | (simp only [go_sem, Bool.and_self, eq_self]; done) | omega | (simp only [List.length_cons, List.length_nil]; omega)) only [go_sem, ↓reduceIte, Nat.reduceEqDiff, Nat.reduceAdd, Nat.reduceMul, Nat.reduceSub, Int.reduceToNat, Nat.reduceBEq, List.size_toArray, List.length_cons, List.length_nil, Bool.false_and, Bool.true_and, Bool.or_false, Bool.false_or, Bool.and_false, Bool.and_true, s15], by simp (disch := first | (simp only [go_sem, Bool.and_self, eq_self]; done) | omega | (simp only [List.length_cons, List.length_nil]; omega)) only [go_sem, ↓reduceIte, Nat.reduceEqDiff, Nat.reduceAdd, Nat.reduceMul, Nat.reduceSub, Int.reduceToNat, Nat.reduceBEq, List.size_toArray, List.length_cons, List.length_nil, Bool.false_and, Bool.true_and, Bool.or_false, Bool.false_or, Bool.and_false, Bool.and_true, s1], by simp (disch := first | (simp only [go_sem, Bool.and_self, eq_self]; done) | omega | (simp only [List.length_cons, List.length_nil]; omega)) only [go_sem, ↓reduceIte, Nat.reduceEqDiff, Nat.reduceAdd, Nat.reduceMul, Nat.reduceSub, Int.reduceToNat, Nat.reduceBEq, List.size_toArray, List.length_cons, List.length_nil, Bool.false_and, Bool.true_and, Bool.or_false, Bool.false_or, Bool.and_false, Bool.and_true, s6], by simp (disch := first | (simp only [go_sem, Bool.and_self, eq_self]; done) | omega | (simp only [List.length_cons, List.length_nil]; omega)) only [go_sem, ↓reduceIte, Nat.reduceEqDiff, Nat.reduceAdd, Nat.reduceMul, Nat.reduceSub, Int.reduceToNat, Nat.reduceBEq, List.size_toArray, List.length_cons, List.length_nil, Bool.false_and, Bool.true_and, Bool.or_false, Bool.false_or, Bool.and_false, Bool.and_true, s7], by simp (disch := first | (simp only [go_sem, Bool.and_self, eq_self]; done) | omega | (simp only [List.length_cons, List.length_nil]; omega)) only [go_sem, ↓reduceIte, Nat.reduceEqDiff, Nat.reduceAdd, Nat.reduceMul, Nat.reduceSub, Int.reduceToNat, Nat.reduceBEq, List.size_toArray, List.length_cons, List.length_nil, Bool.false_and, Bool.true_and, Bool.or_false, Bool.false_or, Bool.and_false, Bool.and_true, s8], by simp (disch := first | (simp only [go_sem, Bool.and_self, eq_self]; done) | omega | (simp only [List.length_cons, List.length_nil]; omega)) only [go_sem, ↓reduceIte, Nat.reduceEqDiff, Nat.reduceAdd, Nat.reduceMul, Nat.reduceSub, Int.reduceToNat, Nat.reduceBEq, List.size_toArray, List.length_cons, List.length_nil, Bool.false_and, Bool.true_and, Bool.or_false, Bool.false_or, Bool.and_false, Bool.and_true, s9], by simp (disch := first | (simp only [go_sem, Bool.and_self, eq_self]; done) | omega | (simp only [List.length_cons, List.length_nil]; omega)) only [go_sem, ↓reduceIte, Nat.reduceEqDiff, Nat.reduceAdd, Nat.reduceMul, Nat.reduceSub, Int.reduceToNat, Nat.reduceBEq, List.size_toArray, List.length_cons, List.length_nil, Bool.false_and, Bool.true_and, Bool.or_false, Bool.false_or, Bool.and_false, Bool.and_true, s10], hnx, b1, by simp (disch := first | (simp only [go_sem, Bool.and_self, eq_self]; done) | omega | (simp only [List.length_cons, List.length_nil]; omega)) only [go_sem, ↓reduceIte, Nat.reduceEqDiff, Nat.reduceAdd, Nat.reduceMul, Nat.reduceSub, Int.reduceToNat, Nat.reduceBEq, List.size_toArray, List.length_cons, List.length_nil, Bool.false_and, Bool.true_and, Bool.or_false, Bool.false_or, Bool.and_false, Bool.and_true, s12], by simp (disch := first | (simp only [go_sem, Bool.and_self, eq_self]; done) | omega | (simp only [List.length_cons, List.length_nil]; omega)) only [go_sem, ↓reduceIte, Nat.reduceEqDiff, Nat.reduceAdd, Nat.reduceMul, Nat.reduceSub, Int.reduceToNat, Nat.reduceBEq, List.size_toArray, List.length_cons, List.length_nil, Bool.false_and, Bool.true_and, Bool.or_false, Bool.false_or, Bool.and_false, Bool.and_true, s13, e2], by simp (disch := first | (simp only [go_sem, Bool.and_self, eq_self]; done) | omega | (simp only [List.length_cons, List.length_nil]; omega)) only [go_sem, ↓reduceIte, Nat.reduceEqDiff, Nat.reduceAdd, Nat.reduceMul, Nat.reduceSub, Int.reduceToNat, Nat.reduceBEq, List.size_toArray, List.length_cons, List.length_nil, Bool.false_and, Bool.true_and, Bool.or_false, Bool.false_or, Bool.and_false, Bool.and_true, s14, e3]⟩
    | true =>
      rw [ha] at s20 e4 e5
      simp only [if_true] at e4 e5
      rw [e4] at e2
      rw [e5] at e3 hB1
      simp (disch := first | (simp only [go_sem, Bool.and_self, eq_self]; done) | omega | (simp only [List.length_cons, List.length_nil]; omega)) only [go_sem, ↓reduceIte, Nat.reduceEqDiff, Nat.reduceAdd, Nat.reduceMul, Nat.reduceSub, Int.reduceToNat, Nat.reduceBEq, List.size_toArray, List.length_cons, List.length_nil, Bool.false_and, Bool.true_and, Bool.or_false, Bool.false_or, Bool.and_false, Bool.and_true, s1, s6, s7, s8, s9, s10, s15, s16, s12, s13, s14, s19, s20, hvr]
      rw [ForK_normal]
      exact ⟨hlt, by simp (disch := first | (simp only [go_sem, Bool.and_self, eq_self]; done) | omega | (simp only [List.length_cons, List.length_nil]; omega)) only [go_sem, ↓reduceIte, Nat.reduceEqDiff, Nat.reduceAdd, Nat.reduceMul, Nat.reduceSub, Int.reduceToNat, Nat.reduceBEq, List.size_toArray, List.length_cons, List.length_nil, Bool.false_and, Bool.true_and, Bool.or_false, Bool.false_or, Bool.and_false, Bool.and_true, s15], by simp (disch := first | (simp only [go_sem, Bool.and_self, eq_self]; done) | omega | (simp only [List.length_cons, List.length_nil]; omega)) only [go_sem, ↓reduceIte, Nat.reduceEqDiff, Nat.reduceAdd, Nat.reduceMul, Nat.reduceSub, Int.reduceToNat, Nat.reduceBEq, List.size_toArray, List.length_cons, List.length_nil, Bool.false_and, Bool.true_and, Bool.or_false, Bool.false_or, Bool.and_false, Bool.and_true, s1], by simp (disch := first | (simp only [go_sem, Bool.and_self, eq_self]; done) | omega | (simp only [List.length_cons, List.length_nil]; omega)) only [go_sem, ↓reduceIte, Nat.reduceEqDiff, Nat.reduceAdd, Nat.reduceMul, Nat.reduceSub, Int.reduceToNat, Nat.reduceBEq, List.size_toArray, List.length_cons, List.length_nil, Bool.false_and, Bool.true_and, Bool.or_false, Bool.false_or, Bool.and_false, Bool.and_true, s6], by simp (disch := first | (simp only [go_sem, Bool.and_self, eq_self]; done) | omega | (simp only [List.length_cons, List.length_nil]; omega)) only [go_sem, ↓reduceIte, Nat.reduceEqDiff, Nat.reduceAdd, Nat.reduceMul, Nat.reduceSub, Int.reduceToNat, Nat.reduceBEq, List.size_toArray, List.length_cons, List.length_nil, Bool.false_and, Bool.true_and, Bool.or_false, Bool.false_or, Bool.and_false, Bool.and_true, s7], by simp (disch := first | (simp only [go_sem, Bool.and_self, eq_self]; done) | omega | (simp only [List.length_cons, List.length_nil]; omega)) only [go_sem, ↓reduceIte, Nat.reduceEqDiff, Nat.reduceAdd, Nat.reduceMul, Nat.reduceSub, Int.reduceToNat, Nat.reduceBEq, List.size_toArray, List.length_cons, List.length_nil, Bool.false_and, Bool.true_and, Bool.or_false, Bool.false_or, Bool.and_false, Bool.and_true, s8], by simp (disch := first | (simp only [go_sem, Bool.and_self, eq_self]; done) | omega | (simp only [List.length_cons, List.length_nil]; omega)) only [go_sem, ↓reduceIte, Nat.reduceEqDiff, Nat.reduceAdd, Nat.reduceMul, Nat.reduceSub, Int.reduceToNat, Nat.reduceBEq, List.size_toArray, List.length_cons, List.length_nil, Bool.false_and, Bool.true_and, Bool.or_false, Bool.false_or, Bool.and_false, Bool.and_true, s9], by simp (disch := first | (simp only [go_sem, Bool.and_self, eq_self]; done) | omega | (simp only [List.length_cons, List.length_nil]; omega)) only [go_sem, ↓reduceIte, Nat.reduceEqDiff, Nat.reduceAdd, Nat.reduceMul, Nat.reduceSub, Int.reduceToNat, Nat.reduceBEq, List.size_toArray, List.length_cons, List.length_nil, Bool.false_and, Bool.true_and, Bool.or_false, Bool.false_or, Bool.and_false, Bool.and_true, s10], hnx, b1, by simp (disch := first | (simp only [go_sem, Bool.and_self, eq_self]; done) | omega | (simp only [List.length_cons, List.length_nil]; omega)) only [go_sem, ↓reduceIte, Nat.reduceEqDiff, Nat.reduceAdd, Nat.reduceMul, Nat.reduceSub, Int.reduceToNat, Nat.reduceBEq, List.size_toArray, List.length_cons, List.length_nil, Bool.false_and, Bool.true_and, Bool.or_false, Bool.false_or, Bool.and_false, Bool.and_true, s12], by simp (disch := first | (simp only [go_sem, Bool.and_self, eq_self]; done) | omega | (simp only [List.length_cons, List.length_nil]; omega)) only [go_sem, ↓reduceIte, Nat.reduceEqDiff, Nat.reduceAdd, Nat.reduceMul, Nat.reduceSub, Int.reduceToNat, Nat.reduceBEq, List.size_toArray, List.length_cons, List.length_nil, Bool.false_and, Bool.true_and, Bool.or_false, Bool.false_or, Bool.and_false, Bool.and_true, e2], by simp (disch := first | (simp only [go_sem, Bool.and_self, eq_self]; done) | omega | (simp only [List.length_cons, List.length_nil]; omega)) only [go_sem, ↓reduceIte, Nat.reduceEqDiff, Nat.reduceAdd, Nat.reduceMul, Nat.reduceSub, Int.reduceToNat, Nat.reduceBEq, List.size_toArray, List.length_cons, List.length_nil, Bool.false_and, Bool.true_and, Bool.or_false, Bool.false_or, Bool.and_false, Bool.and_true, e3]⟩
  · rintro st h ⟨s1, s6, s7, s9, s10, hnx, b1, s12, s13, s14⟩
    generalize sumN (agT P g w) (2 ^ P.length) = A at *
    generalize sumN (bitT P g w v) (2 ^ P.length) = B at *
    have hbs := fun h => bsB_row (P := Try.prog) (h := h) (f := eP) (sz := 2) 46 (v, 1) (0, 0) isz46 izero46 (by decide)
    have e12 : eP (v, 1) = [I v, I 1] := rfl
    rw [e12] at hbs
    have n60 : ¬ (6 : Int) = 0 := by decide
    by_cases hA0 : A = 0
    · rw [if_pos hA0] at kc
      simp (disch := first | (simp only [go_sem, Bool.and_self, eq_self]; done) | omega | (simp only [List.length_cons, List.length_nil]; omega)) only [go_sem, ↓reduceIte, Nat.reduceEqDiff, Nat.reduceAdd, Nat.reduceMul, Nat.reduceSub, Int.reduceToNat, Nat.reduceBEq, List.size_toArray, List.length_cons, List.length_nil, Bool.false_and, Bool.true_and, Bool.or_false, Bool.false_or, Bool.and_false, Bool.and_true, s1, s6, s7, s9, s10, s12, s13, s14, b1, hbs, kc, hA0, n60]
    · rw [if_neg hA0, redu_def] at kc
      have k35' := fun h h' K => ConW_num (h := h) (h' := h') (K := K) (lift (by decide) (f35_con B A (by omega) (by omega))) rfl
      rw [redu_def] at k35'
      simp (disch := first | (simp only [go_sem, Bool.and_self, eq_self]; done) | omega | (simp only [List.length_cons, List.length_nil]; omega)) only [go_sem, ↓reduceIte, Nat.reduceEqDiff, Nat.reduceAdd, Nat.reduceMul, Nat.reduceSub, Int.reduceToNat, Nat.reduceBEq, List.size_toArray, List.length_cons, List.length_nil, Bool.false_and, Bool.true_and, Bool.or_false, Bool.false_or, Bool.and_false, Bool.and_true, s1, s6, s7, s9, s10, s12, s13, s14, b1, hbs, kc, hA0, k35']

end Go.Proofs.Ytpkakapbepkfdaa

set_option linter.unusedVariables false
set_option linter.unusedSimpArgs false
set_option maxRecDepth 10000
namespace Go.Proofs.Ytpkakapbepkfdaa
open Go Go.Am

variable {h h' : Hp} {K : AV → Hp → Prop}

def rowFP (p : List (List Int)) (v i : Nat) : List Int := if i = v then [] else nth p i
def rowFT (t : List (List Int)) (v : Nat) (x : Int) (i : Nat) : List Int := if i = v then [16 * x] else nth t i
def forceP (p : List (List Int)) (v : Nat) : List (List Int) := (List.range p.length).map (rowFP p v)
def forceT (p t : List (List Int)) (v : Nat) (x : Int) : List (List Int) := (List.range p.length).map (rowFT t v x)

structure FF (c : List AV) (P T : List (List Int)) (v w : AV) (h : Hp) : Prop where
  nx : 3 ≤ h.nx
  b0 : h.bl 0 = some (.cells false false c)
  b1 : h.bl 1 = some (.cells false false [.nil, .nil])
  b2 : h.bl 2 = some (.cells false false [v, w])
  ov : Own (e1 LI) 1 h v P
  ow : Own (e1 LI) 1 h w T
  d : Dis v w
/-- One row more for the first list: whatever it comes from ('x', sealed). -/
theorem FF.step1 {c : List AV} {P T : List (List Int)} {v w : AV} (F : FF c P T v w h) (r : List Int) (hP : P.length ≤ 20) :
    ∃ G V, appB Try.prog h (some (.slice 25)) true v (.lst [[LI r]]) = some (V, G) ∧ V.isCell = true ∧ G.nx = h.nx + 1 ∧ G.bl 0 = some (.cells false false c) ∧ G.bl 2 = some (.cells false false [v, w]) ∧
      (∀ g, storeC g 2 0 1 (some (.cells false false [v, w])) V.cells = some (.skp, g.put 2 (some (.cells false false [V, w])))) ∧ FF c (P ++ [r]) T V w (G.put 2 (some (.cells false false [V, w]))) ∧
      ∀ y ys, Own (e1 I) 1 h y ys → Dis v y → Own (e1 I) 1 (G.put 2 (some (.cells false false [V, w]))) y ys ∧ Dis V y := by
  have hap := app_one (P := Try.prog) F.ov 25 24 .nil r isz25 ibytes25 izero25 rfl (by omega) (by omega)
  have hn := F.nx
  have c0 := (appH_bl h v ((P ++ [r]).flatMap (e1 LI)) 0 (by omega) (own_ne F.ov F.b0)).trans F.b0
  have c1 := (appH_bl h v ((P ++ [r]).flatMap (e1 LI)) 1 (by omega) (own_ne F.ov F.b1)).trans F.b1
  have c2 := (appH_bl h v ((P ++ [r]).flatMap (e1 LI)) 2 (by omega) (own_ne F.ov F.b2)).trans F.b2
  have cn := appH_nx h v ((P ++ [r]).flatMap (e1 LI))
  have oV := Own.app (f := e1 LI) (sz := 1) h v (P ++ [r])
  have ow1 := Own.keep F.ow F.d ((P ++ [r]).flatMap (e1 LI))
  have dVw := Own.dis F.ow (P ++ [r]).length 1
  refine ⟨_, _, hap, own_cell oV, cn, c0, c2, fun g => store_fst (own_cell oV), ⟨?_, ?_, ?_, ?_, own_put oV c2 _, own_put ow1 c2 _, dVw⟩, fun y ys oy dy => ⟨own_put (Own.keep oy dy _) c2 _, oy.dis _ _⟩⟩
  · rw [put_nx, cn]; omega
  · rw [put_bl, if_neg (by decide)]; exact c0
  · rw [put_bl, if_neg (by decide)]; exact c1
  · rw [put_bl, if_pos rfl]
theorem FF.step2 {c : List AV} {P T : List (List Int)} {v w : AV} (F : FF c P T v w h) (r : List Int) (hT : T.length ≤ 20) :
    ∃ G V, appB Try.prog h (some (.slice 25)) true w (.lst [[LI r]]) = some (V, G) ∧ V.isCell = true ∧ G.nx = h.nx + 1 ∧ G.bl 0 = some (.cells false false c) ∧ G.bl 2 = some (.cells false false [v, w]) ∧
      (∀ g, storeC g 2 1 1 (some (.cells false false [v, w])) V.cells = some (.skp, g.put 2 (some (.cells false false [v, V])))) ∧ FF c P (T ++ [r]) v V (G.put 2 (some (.cells false false [v, V]))) := by
  have hap := app_one (P := Try.prog) F.ow 25 24 .nil r isz25 ibytes25 izero25 rfl (by omega) (by omega)
  have hn := F.nx
  have c0 := (appH_bl h w ((T ++ [r]).flatMap (e1 LI)) 0 (by omega) (own_ne F.ow F.b0)).trans F.b0
  have c1 := (appH_bl h w ((T ++ [r]).flatMap (e1 LI)) 1 (by omega) (own_ne F.ow F.b1)).trans F.b1
  have c2 := (appH_bl h w ((T ++ [r]).flatMap (e1 LI)) 2 (by omega) (own_ne F.ow F.b2)).trans F.b2
  have cn := appH_nx h w ((T ++ [r]).flatMap (e1 LI))
  have oW := Own.app (f := e1 LI) (sz := 1) h w (T ++ [r])
  have ov1 := Own.keep F.ov F.d.symm ((T ++ [r]).flatMap (e1 LI))
  have dVw := Own.dis F.ov (T ++ [r]).length 1
  refine ⟨_, _, hap, own_cell oW, cn, c0, c2, fun g => store_snd (own_cell oW), ?_, ?_, ?_, ?_, own_put ov1 c2 _, own_put oW c2 _, dVw.symm⟩
  · rw [put_nx, cn]; omega
  · rw [put_bl, if_neg (by decide)]; exact c0
  · rw [put_bl, if_neg (by decide)]; exact c1
  · rw [put_bl, if_pos rfl]
/-- A copy that is made and sealed. -/
theorem FF.clone {c : List AV} {P T : List (List Int)} {v w : AV} (F : FF c P T v w h) (r : List Int) : ∃ h1, sealA (h.alloc (.cells false true (r.flatMap (e1 I)))) (.sl h.nx 0 ((r.flatMap (e1 I)).length / 1) 1) = some (LI r, h1) ∧ FF c P T v w h1 := by
  have o : Own (e1 I) 1 (h.alloc (.cells false true (r.flatMap (e1 I)))) (.sl h.nx 0 ((r.flatMap (e1 I)).length / 1) 1) r := .inr ⟨h.nx, by rw [flat_len, Nat.div_one], by simp [Hp.alloc], by simp [Hp.alloc]⟩
  obtain ⟨h1, hs, hn, hb⟩ := sealA_Own o
  have hb' : ∀ i, i < h.nx → h1.bl i = h.bl i := fun i hi => by
    rw [hb i (fun id off n sz e => by cases e; omega)]
    simp [Hp.alloc, show ¬ i = h.nx by omega]
  have hn' : h1.nx = h.nx + 1 := hn
  have hF := F.nx
  exact ⟨h1, hs, by omega, (hb' 0 (by omega)).trans F.b0, (hb' 1 (by omega)).trans F.b1, (hb' 2 (by omega)).trans F.b2, F.ov.mono (by omega) hb', F.ow.mono (by omega) hb', F.d⟩
theorem FF.shut {c : List AV} {P T : List (List Int)} {v w x : AV} {r : List Int} (F : FF c P T v w h) (ox : Own (e1 I) 1 h x r) (dv : Dis x v) (dw : Dis x w) :
    ∃ h1, sealA h x = some (LI r, h1) ∧ FF c P T v w h1 ∧ ∀ y ys, Own (e1 I) 1 h y ys → Dis x y → Own (e1 I) 1 h1 y ys := by
  obtain ⟨h1, hs, hn, hb⟩ := sealA_Own ox
  have hF := F.nx
  exact ⟨h1, hs, ⟨by omega, (hb 0 (own_ne ox F.b0)).trans F.b0, (hb 1 (own_ne ox F.b1)).trans F.b1, (hb 2 (own_ne ox F.b2)).trans F.b2, Own.keepX F.ov (by omega) (fun i _ hne => hb i hne) dv, Own.keepX F.ow (by omega) (fun i _ hne => hb i hne) dw, F.d⟩,
    fun y ys oy dy => Own.keepX oy (by omega) (fun i _ hne => hb i hne) dy⟩
theorem FF.alloc {c : List AV} {P T : List (List Int)} {v w : AV} (F : FF c P T v w h) (r : List Int) : FF c P T v w (h.alloc (.cells false true (r.flatMap (e1 I)))) ∧ Own (e1 I) 1 (h.alloc (.cells false true (r.flatMap (e1 I)))) (.sl h.nx 0 r.length 1) r ∧ Dis (.sl h.nx 0 r.length 1) v ∧ Dis (.sl h.nx 0 r.length 1) w ∧
    ∀ y ys, Own (e1 I) 1 h y ys → Own (e1 I) 1 (h.alloc (.cells false true (r.flatMap (e1 I)))) y ys ∧ Dis y (.sl h.nx 0 r.length 1) := by
  have hF := F.nx
  have hb : ∀ i, i < h.nx → (h.alloc (.cells false true (r.flatMap (e1 I)))).bl i = h.bl i := fun i hi => by simp [Hp.alloc, show ¬ i = h.nx by omega]
  have hn : (h.alloc (.cells false true (r.flatMap (e1 I)))).nx = h.nx + 1 := rfl
  exact ⟨⟨by omega, (hb 0 (by omega)).trans F.b0, (hb 1 (by omega)).trans F.b1, (hb 2 (by omega)).trans F.b2, F.ov.mono (by omega) hb, F.ow.mono (by omega) hb, F.d⟩, .inr ⟨h.nx, rfl, by omega, by simp [Hp.alloc]⟩,
    F.ov.dis r.length 1, F.ow.dis r.length 1, fun y ys oy => ⟨oy.mono (by omega) hb, (oy.dis r.length 1).symm⟩⟩
theorem clone_con (r : List Int) (hr : r.length ≤ 10) : Con Try.prog cfgX 66 [LI r] (.fresh 1 (r.flatMap (e1 I))) := by
  cases r with
  | nil => exact clone_nil
  | cons a r => exact lift66 (fun h => by simp at h) (f66_con (a :: r) (by simp) hr)

theorem f70_con (p t : List (List Int)) (N : Net p t) (v : Nat) (hv : v < p.length) (x : Int) (hx : 0 ≤ x ∧ x ≤ 1) : Con Try.prog cfgX 70 [.agg [LLI p, LLI t, I p.length], I v, I x] (.agg [LLI (forceP p v), LLI (forceT p t v x)]) := by
  have hn1 := N.n1
  refine Con_intro Try.func70 rfl okX70 (Nat.le_of_ble_eq_true rfl) rfl ?_
  simp only [Try.f70, Option.getD_some, initSt3]
  simp (disch := first | (simp only [go_sem, Bool.and_self, eq_self]; done) | omega | (simp only [List.length_cons, List.length_nil]; omega)) only [go_sem, ↓reduceIte, Nat.reduceEqDiff, Nat.reduceAdd, Nat.reduceMul, Nat.reduceSub, Int.reduceToNat, Nat.reduceBEq, List.size_toArray, List.length_cons, List.length_nil, Bool.false_and, Bool.true_and, Bool.or_false, Bool.false_or, Bool.and_false, Bool.and_true]
  refine WP_cut (fun st h => st 1 = I v ∧ st 2 = I x ∧ st 3 = .ptr 0 0 ∧ st 6 = .ptr 1 0 ∧ st 7 = .ptr 2 0 ∧ st 10 = I p.length ∧ ∃ a b, FF [LLI p, LLI t, I p.length] (forceP p v) (forceT p t v x) a b h) ?_ ?_
  · refine WP_for 11 p.length (fun i st h => st 1 = I v ∧ st 2 = I x ∧ st 3 = .ptr 0 0 ∧ st 6 = .ptr 1 0 ∧ st 7 = .ptr 2 0 ∧ st 10 = I p.length ∧ ∃ a b, FF [LLI p, LLI t, I p.length] ((List.range i).map (rowFP p v)) ((List.range i).map (rowFT t v x)) a b h) (by simp (disch := first | (simp only [go_sem, Bool.and_self, eq_self]; done) | omega | (simp only [List.length_cons, List.length_nil]; omega)) only [go_sem, ↓reduceIte, Nat.reduceEqDiff, Nat.reduceAdd, Nat.reduceMul, Nat.reduceSub, Int.reduceToNat, Nat.reduceBEq, List.size_toArray, List.length_cons, List.length_nil, Bool.false_and, Bool.true_and, Bool.or_false, Bool.false_or, Bool.and_false, Bool.and_true]) ⟨by simp (disch := first | (simp only [go_sem, Bool.and_self, eq_self]; done) | omega | (simp only [List.length_cons, List.length_nil]; omega)) only [go_sem, ↓reduceIte, Nat.reduceEqDiff, Nat.reduceAdd, Nat.reduceMul, Nat.reduceSub, Int.reduceToNat, Nat.reduceBEq, List.size_toArray, List.length_cons, List.length_nil, Bool.false_and, Bool.true_and, Bool.or_false, Bool.false_or, Bool.and_false, Bool.and_true], by simp (disch := first | (simp only [go_sem, Bool.and_self, eq_self]; done) | omega | (simp only [List.length_cons, List.length_nil]; omega)) only [go_sem, ↓reduceIte, Nat.reduceEqDiff, Nat.reduceAdd, Nat.reduceMul, Nat.reduceSub, Int.reduceToNat, Nat.reduceBEq, List.size_toArray, List.length_cons, List.length_nil, Bool.false_and, Bool.true_and, Bool.or_false, Bool.false_or, Bool.and_false, Bool.and_true], by simp (disch := first | (simp only [go_sem, Bool.and_self, eq_self]; done) | omega | (simp only [List.length_cons, List.length_nil]; omega)) only [go_sem, ↓reduceIte, Nat.reduceEqDiff, Nat.reduceAdd, Nat.reduceMul, Nat.reduceSub, Int.reduceToNat, Nat.reduceBEq, List.size_toArray, List.length_cons, List.length_nil, Bool.false_and, Bool.true_and, Bool.or_false, Bool.false_or, Bool.and_false, Bool.and_true], by simp (disch := first | (simp only [go_sem, Bool.and_self, eq_self]; done) | omega | (simp only [List.length_cons, List.length_nil]; omega)) only [go_sem, ↓reduceIte, Nat.reduceEqDiff, Nat.reduceAdd, Nat.reduceMul, Nat.reduceSub, Int.reduceToNat, Nat.reduceBEq, List.size_toArray, List.length_cons, List.length_nil, Bool.false_and, Bool.true_and, Bool.or_false, Bool.false_or, Bool.and_false, Bool.and_true], by simp (disch := first | (simp only [go_sem, Bool.and_self, eq_self]; done) | omega | (simp only [List.length_cons, List.length_nil]; omega)) only [go_sem, ↓reduceIte, Nat.reduceEqDiff, Nat.reduceAdd, Nat.reduceMul, Nat.reduceSub, Int.reduceToNat, Nat.reduceBEq, List.size_toArray, List.length_cons, List.length_nil, Bool.false_and, Bool.true_and, Bool.or_false, Bool.false_or, Bool.and_false, Bool.and_true], by simp (disch := first | (simp only [go_sem, Bool.and_self, eq_self]; done) | omega | (simp only [List.length_cons, List.length_nil]; omega)) only [go_sem, ↓reduceIte, Nat.reduceEqDiff, Nat.reduceAdd, Nat.reduceMul, Nat.reduceSub, Int.reduceToNat, Nat.reduceBEq, List.size_toArray, List.length_cons, List.length_nil, Bool.false_and, Bool.true_and, Bool.or_false, Bool.false_or, Bool.and_false, Bool.and_true], .nil, .nil, by simp (disch := first | (simp only [go_sem, Bool.and_self, eq_self]; done) | omega | (simp only [List.length_cons, List.length_nil]; omega)) only [go_sem, ↓reduceIte, Nat.reduceEqDiff, Nat.reduceAdd, Nat.reduceMul, Nat.reduceSub, Int.reduceToNat, Nat.reduceBEq, List.size_toArray, List.length_cons, List.length_nil, Bool.false_and, Bool.true_and, Bool.or_false, Bool.false_or, Bool.and_false, Bool.and_true]; decide, by simp (disch := first | (simp only [go_sem, Bool.and_self, eq_self]; done) | omega | (simp only [List.length_cons, List.length_nil]; omega)) only [go_sem, ↓reduceIte, Nat.reduceEqDiff, Nat.reduceAdd, Nat.reduceMul, Nat.reduceSub, Int.reduceToNat, Nat.reduceBEq, List.size_toArray, List.length_cons, List.length_nil, Bool.false_and, Bool.true_and, Bool.or_false, Bool.false_or, Bool.and_false, Bool.and_true], by simp (disch := first | (simp only [go_sem, Bool.and_self, eq_self]; done) | omega | (simp only [List.length_cons, List.length_nil]; omega)) only [go_sem, ↓reduceIte, Nat.reduceEqDiff, Nat.reduceAdd, Nat.reduceMul, Nat.reduceSub, Int.reduceToNat, Nat.reduceBEq, List.size_toArray, List.length_cons, List.length_nil, Bool.false_and, Bool.true_and, Bool.or_false, Bool.false_or, Bool.and_false, Bool.and_true], by simp (disch := first | (simp only [go_sem, Bool.and_self, eq_self]; done) | omega | (simp only [List.length_cons, List.length_nil]; omega)) only [go_sem, ↓reduceIte, Nat.reduceEqDiff, Nat.reduceAdd, Nat.reduceMul, Nat.reduceSub, Int.reduceToNat, Nat.reduceBEq, List.size_toArray, List.length_cons, List.length_nil, Bool.false_and, Bool.true_and, Bool.or_false, Bool.false_or, Bool.and_false, Bool.and_true], .inl ⟨rfl, rfl⟩, .inl ⟨rfl, rfl⟩, Dis.nil_l _⟩ ?_
    rintro i st h hi s11 ⟨s1, s2, s3, s6, s7, s10, a, b, F⟩
    by_cases hlt : i < p.length
    case neg =>
      have hii : i = p.length := by omega
      simp (disch := first | (simp only [go_sem, Bool.and_self, eq_self]; done) | omega | (simp only [List.length_cons, List.length_nil]; omega)) only [go_sem, ↓reduceIte, Nat.reduceEqDiff, Nat.reduceAdd, Nat.reduceMul, Nat.reduceSub, Int.reduceToNat, Nat.reduceBEq, List.size_toArray, List.length_cons, List.length_nil, Bool.false_and, Bool.true_and, Bool.or_false, Bool.false_or, Bool.and_false, Bool.and_true, s1, s2, s3, s6, s7, s10, s11, hlt]
      rw [hii] at F
      exact ⟨a, b, F⟩
    have b0 := F.b0
    have b2 := F.b2
    have hnx := F.nx
    have hca := own_cell F.ov
    have hcb := own_cell F.ow
    by_cases hiv : i = v
    · subst hiv
      have r1 : rowFP p i i = [] := by simp [rowFP]
      have r2 : rowFT t i x i = [16 * x] := by simp [rowFT]
      have hbs := fun h => bsB_one (P := Try.prog) 25 .nil (LI []) .nil h isz25 izero25 rfl rfl rfl rfl rfl rfl (pure_L _)
      have hbs1 := fun h => bsB_one (P := Try.prog) 3 (I (16 * x)) (I (16 * x)) (I 0) h isz3 izero3 rfl rfl rfl rfl rfl rfl rfl
      have hbs2 : ∀ h, bsB Try.prog h (some (.slice 25)) 1 [(0, .lst [[I (16 * x)]])] = some (.lst [[LI [16 * x]]], h) := fun h => bsB_one (P := Try.prog) 25 (LI [16 * x]) (LI [16 * x]) .nil h isz25 izero25 rfl rfl rfl (sealA_L _) rfl rfl (pure_L _)
      obtain ⟨G, V, g1, g2, g3, g4, g5, g6, F2, _⟩ := F.step1 [] (by simp; omega)
      have d2 := F2.b2
      obtain ⟨G', V', k1, k2, k3, k4, k5, k6, F3⟩ := F2.step2 [16 * x] (by simp; omega)
      simp (disch := first | (simp only [go_sem, Bool.and_self, eq_self]; done) | omega | (simp only [List.length_cons, List.length_nil]; omega)) only [go_sem, ↓reduceIte, Nat.reduceEqDiff, Nat.reduceAdd, Nat.reduceMul, Nat.reduceSub, Int.reduceToNat, Nat.reduceBEq, List.size_toArray, List.length_cons, List.length_nil, Bool.false_and, Bool.true_and, Bool.or_false, Bool.false_or, Bool.and_false, Bool.and_true, s1, s2, s3, s6, s7, s10, s11, hlt, eq_self, decide_true, b0, b2, hbs, g1, g5, g6, d2, hbs1, hbs2, k1, k5, k6, hca, hcb]
      rw [ForK_normal]
      refine ⟨hlt, by simp (disch := first | (simp only [go_sem, Bool.and_self, eq_self]; done) | omega | (simp only [List.length_cons, List.length_nil]; omega)) only [go_sem, ↓reduceIte, Nat.reduceEqDiff, Nat.reduceAdd, Nat.reduceMul, Nat.reduceSub, Int.reduceToNat, Nat.reduceBEq, List.size_toArray, List.length_cons, List.length_nil, Bool.false_and, Bool.true_and, Bool.or_false, Bool.false_or, Bool.and_false, Bool.and_true, s11], by simp (disch := first | (simp only [go_sem, Bool.and_self, eq_self]; done) | omega | (simp only [List.length_cons, List.length_nil]; omega)) only [go_sem, ↓reduceIte, Nat.reduceEqDiff, Nat.reduceAdd, Nat.reduceMul, Nat.reduceSub, Int.reduceToNat, Nat.reduceBEq, List.size_toArray, List.length_cons, List.length_nil, Bool.false_and, Bool.true_and, Bool.or_false, Bool.false_or, Bool.and_false, Bool.and_true, s1], by simp (disch := first | (simp only [go_sem, Bool.and_self, eq_self]; done) | omega | (simp only [List.length_cons, List.length_nil]; omega)) only [go_sem, ↓reduceIte, Nat.reduceEqDiff, Nat.reduceAdd, Nat.reduceMul, Nat.reduceSub, Int.reduceToNat, Nat.reduceBEq, List.size_toArray, List.length_cons, List.length_nil, Bool.false_and, Bool.true_and, Bool.or_false, Bool.false_or, Bool.and_false, Bool.and_true, s2], by simp (disch := first | (simp only [go_sem, Bool.and_self, eq_self]; done) | omega | (simp only [List.length_cons, List.length_nil]; omega)) only [go_sem, ↓reduceIte, Nat.reduceEqDiff, Nat.reduceAdd, Nat.reduceMul, Nat.reduceSub, Int.reduceToNat, Nat.reduceBEq, List.size_toArray, List.length_cons, List.length_nil, Bool.false_and, Bool.true_and, Bool.or_false, Bool.false_or, Bool.and_false, Bool.and_true, s3], by simp (disch := first | (simp only [go_sem, Bool.and_self, eq_self]; done) | omega | (simp only [List.length_cons, List.length_nil]; omega)) only [go_sem, ↓reduceIte, Nat.reduceEqDiff, Nat.reduceAdd, Nat.reduceMul, Nat.reduceSub, Int.reduceToNat, Nat.reduceBEq, List.size_toArray, List.length_cons, List.length_nil, Bool.false_and, Bool.true_and, Bool.or_false, Bool.false_or, Bool.and_false, Bool.and_true, s6], by simp (disch := first | (simp only [go_sem, Bool.and_self, eq_self]; done) | omega | (simp only [List.length_cons, List.length_nil]; omega)) only [go_sem, ↓reduceIte, Nat.reduceEqDiff, Nat.reduceAdd, Nat.reduceMul, Nat.reduceSub, Int.reduceToNat, Nat.reduceBEq, List.size_toArray, List.length_cons, List.length_nil, Bool.false_and, Bool.true_and, Bool.or_false, Bool.false_or, Bool.and_false, Bool.and_true, s7], by simp (disch := first | (simp only [go_sem, Bool.and_self, eq_self]; done) | omega | (simp only [List.length_cons, List.length_nil]; omega)) only [go_sem, ↓reduceIte, Nat.reduceEqDiff, Nat.reduceAdd, Nat.reduceMul, Nat.reduceSub, Int.reduceToNat, Nat.reduceBEq, List.size_toArray, List.length_cons, List.length_nil, Bool.false_and, Bool.true_and, Bool.or_false, Bool.false_or, Bool.and_false, Bool.and_true, s10], V, V', ?_⟩
      rw [← rows_snoc, ← rows_snoc, r1, r2]
      exact F3
    · have hiv' : ¬ (i : Int) = v := by omega
      have r1 : rowFP p v i = nth p i := by simp [rowFP, hiv]
      have r2 : rowFT t v x i = nth t i := by simp [rowFT, hiv]
      have cl1 := fun h h' K => ConW_any (h := h) (h' := h') (K := K) (clone_con (nth p i) (by have := N.pl i hlt; omega)) rfl
      have cl2 := fun h h' K => ConW_any (h := h) (h' := h') (K := K) (clone_con (nth t i) (by have := N.tt i hlt; have h1 := N.pl i hlt; have h8 : 2 ^ (nth p i).length ≤ 2 ^ 3 := Nat.pow_le_pow_right (by decide) h1; omega)) rfl
      obtain ⟨h1, hs1, F1⟩ := F.clone (nth p i)
      have hbs1 := bsB_one (P := Try.prog) 25 _ (LI (nth p i)) .nil h1 isz25 izero25 rfl rfl rfl hs1 rfl rfl (pure_L _)
      obtain ⟨G, V, g1, g2, g3, g4, g5, g6, F2, _⟩ := F1.step1 (nth p i) (by simp; omega)
      have e0 := F2.b0
      have e2 := F2.b2
      have en := F2.nx
      obtain ⟨h2, hs2, F3⟩ := F2.clone (nth t i)
      have hbs2 := bsB_one (P := Try.prog) 25 _ (LI (nth t i)) .nil h2 isz25 izero25 rfl rfl rfl hs2 rfl rfl (pure_L _)
      obtain ⟨G', V', k1, k2, k3, k4, k5, k6, F4⟩ := F3.step2 (nth t i) (by simp; omega)
      rw [put_nx] at hbs2
      have l0 : 0 < h.nx := by omega
      have l2 : 2 < h.nx := by omega
      have hGn : (G.put 2 (some (.cells false false [V, b]))).nx = G.nx := rfl
      have m0 : 0 < G.nx := by omega
      have m2 : 2 < G.nx := by omega
      have hti : i < t.length := by have := N.tl; omega
      simp (disch := first | (simp only [go_sem, Bool.and_self, eq_self]; done) | omega | (simp only [List.length_cons, List.length_nil]; omega)) only [go_sem, ↓reduceIte, Nat.reduceEqDiff, Nat.reduceAdd, Nat.reduceMul, Nat.reduceSub, Int.reduceToNat, Nat.reduceBEq, List.size_toArray, List.length_cons, List.length_nil, Bool.false_and, Bool.true_and, Bool.or_false, Bool.false_or, Bool.and_false, Bool.and_true, s1, s2, s3, s6, s7, s10, s11, hlt, hiv', b0, b2, cl1, cl2, hbs1, hbs2, g1, g4, g5, g6, e0, e2, k1, k5, k6, hca, hcb, l0, l2, m0, m2, hti]
      rw [ForK_normal]
      refine ⟨hlt, by simp (disch := first | (simp only [go_sem, Bool.and_self, eq_self]; done) | omega | (simp only [List.length_cons, List.length_nil]; omega)) only [go_sem, ↓reduceIte, Nat.reduceEqDiff, Nat.reduceAdd, Nat.reduceMul, Nat.reduceSub, Int.reduceToNat, Nat.reduceBEq, List.size_toArray, List.length_cons, List.length_nil, Bool.false_and, Bool.true_and, Bool.or_false, Bool.false_or, Bool.and_false, Bool.and_true, s11], by simp (disch := first | (simp only [go_sem, Bool.and_self, eq_self]; done) | omega | (simp only [List.length_cons, List.length_nil]; omega)) only [go_sem, ↓reduceIte, Nat.reduceEqDiff, Nat.reduceAdd, Nat.reduceMul, Nat.reduceSub, Int.reduceToNat, Nat.reduceBEq, List.size_toArray, List.length_cons, List.length_nil, Bool.false_and, Bool.true_and, Bool.or_false, Bool.false_or, Bool.and_false, Bool.and_true, s1], by simp (disch := first | (simp only [go_sem, Bool.and_self, eq_self]; done) | omega | (simp only [List.length_cons, List.length_nil]; omega)) only [go_sem, ↓reduceIte, Nat.reduceEqDiff, Nat.reduceAdd, Nat.reduceMul, Nat.reduceSub, Int.reduceToNat, Nat.reduceBEq, List.size_toArray, List.length_cons, List.length_nil, Bool.false_and, Bool.true_and, Bool.or_false, Bool.false_or, Bool.and_false, Bool.and_true, s2], by simp (disch := first | (simp only [go_sem, Bool.and_self, eq_self]; done) | omega | (simp only [List.length_cons, List.length_nil]; omega)) only [go_sem, ↓reduceIte, Nat.reduceEqDiff, Nat.reduceAdd, Nat.reduceMul, Nat.reduceSub, Int.reduceToNat, Nat.reduceBEq, List.size_toArray, List.length_cons, List.length_nil, Bool.false_and, Bool.true_and, Bool.or_false, Bool.false_or, Bool.and_false, Bool.and_true, s3], by simp (disch := first | (simp only [go_sem, Bool.and_self, eq_self]; done) | omega | (simp only [List.length_cons, List.length_nil]; omega)) only [go_sem, ↓reduceIte, Nat.reduceEqDiff, Nat.reduceAdd, Nat.reduceMul, Nat.reduceSub, Int.reduceToNat, Nat.reduceBEq, List.size_toArray, List.length_cons, List.length_nil, Bool.false_and, Bool.true_and, Bool.or_false, Bool.false_or, Bool.and_false, Bool.and_true, s6], by simp (disch := first | (simp only [go_sem, Bool.and_self, eq_self]; done) | omega | (simp only [List.length_cons, List.length_nil]; omega)) only [go_sem, ↓reduceIte, Nat.reduceEqDiff, Nat.reduceAdd, Nat.reduceMul, Nat.reduceSub, Int.reduceToNat, Nat.reduceBEq, List.size_toArray, List.length_cons, List.length_nil, Bool.false_and, Bool.true_and, Bool.or_false, Bool.false_or, Bool.and_false, Bool.and_true, s7], by simp (disch := first | (simp only [go_sem, Bool.and_self, eq_self]; done) | omega | (simp only [List.length_cons, List.length_nil]; omega)) only [go_sem, ↓reduceIte, Nat.reduceEqDiff, Nat.reduceAdd, Nat.reduceMul, Nat.reduceSub, Int.reduceToNat, Nat.reduceBEq, List.size_toArray, List.length_cons, List.length_nil, Bool.false_and, Bool.true_and, Bool.or_false, Bool.false_or, Bool.and_false, Bool.and_true, s10], V, V', ?_⟩
      rw [← rows_snoc, ← rows_snoc, r1, r2]
      exact F4
  · rintro st h ⟨s1, s2, s3, s6, s7, s10, a, b, F⟩
    have b1 := F.b1
    have b2 := F.b2
    have hca := own_cell F.ov
    have hcb := own_cell F.ow
    have o1 := own_put F.ov b1 (some (.cells false false [a, b]))
    have o2 := own_put F.ow b1 (some (.cells false false [a, b]))
    have hne : forceP p v ≠ [] := fun e => by
      have := congrArg List.length e
      simp only [forceP, List.length_map, List.length_range, List.length_nil] at this; omega
    have hne2 : forceT p t v x ≠ [] := fun e => by
      have := congrArg List.length e
      simp only [forceT, List.length_map, List.length_range, List.length_nil] at this; omega
    have hex := export_net 24 o1 o2 F.d (fun e => absurd e hne) (fun e => absurd e hne2)
    rw [netV_cons (fun e => hne e.1)] at hex
    simp (disch := first | (simp only [go_sem, Bool.and_self, eq_self]; done) | omega | (simp only [List.length_cons, List.length_nil]; omega)) only [go_sem, ↓reduceIte, Nat.reduceEqDiff, Nat.reduceAdd, Nat.reduceMul, Nat.reduceSub, Int.reduceToNat, Nat.reduceBEq, List.size_toArray, List.length_cons, List.length_nil, Bool.false_and, Bool.true_and, Bool.or_false, Bool.false_or, Bool.and_false, Bool.and_true, s1, s2, s3, s6, s7, s10, b1, b2, hca, hcb, hex]

end Go.Proofs.Ytpkakapbepkfdaa

set_option linter.unusedVariables false
set_option linter.unusedSimpArgs false
set_option maxRecDepth 10000
namespace Go.Proofs.Ytpkakapbepkfdaa
open Go Go.Am

variable {h h' : Hp} {K : AV → Hp → Prop}

theorem f44_con (p t : List (List Int)) (N : Net p t) (v : Nat) (hv : v < p.length) (x : Int) (hx : 0 ≤ x ∧ x ≤ 1) : Con Try.prog cfg 44 [.agg [LLI p, LLI t], I v, I x] (.agg [LLI (forceP p v), LLI (forceT p t v x)]) := by
  have hn1 := N.n1
  refine Con_intro Try.func44 rfl ok44 (Nat.le_of_ble_eq_true rfl) rfl ?_
  simp only [Try.f44, Option.getD_some, initSt3]
  simp (disch := first | (simp only [go_sem, Bool.and_self, eq_self]; done) | omega | (simp only [List.length_cons, List.length_nil]; omega)) only [go_sem, ↓reduceIte, Nat.reduceEqDiff, Nat.reduceAdd, Nat.reduceMul, Nat.reduceSub, Int.reduceToNat, Nat.reduceBEq, List.size_toArray, List.length_cons, List.length_nil, Bool.false_and, Bool.true_and, Bool.or_false, Bool.false_or, Bool.and_false, Bool.and_true]
  refine WP_cut (fun st h => st 1 = I v ∧ st 2 = I x ∧ st 3 = .ptr 0 0 ∧ st 6 = .ptr 1 0 ∧ st 7 = .ptr 2 0 ∧ ∃ a b, FF [LLI p, LLI t] (forceP p v) (forceT p t v x) a b h) ?_ ?_
  · refine WP_for 8 p.length (fun i st h => st 1 = I v ∧ st 2 = I x ∧ st 3 = .ptr 0 0 ∧ st 6 = .ptr 1 0 ∧ st 7 = .ptr 2 0 ∧ ∃ a b, FF [LLI p, LLI t] ((List.range i).map (rowFP p v)) ((List.range i).map (rowFT t v x)) a b h) (by simp (disch := first | (simp only [go_sem, Bool.and_self, eq_self]; done) | omega | (simp only [List.length_cons, List.length_nil]; omega)) only [go_sem, ↓reduceIte, Nat.reduceEqDiff, Nat.reduceAdd, Nat.reduceMul, Nat.reduceSub, Int.reduceToNat, Nat.reduceBEq, List.size_toArray, List.length_cons, List.length_nil, Bool.false_and, Bool.true_and, Bool.or_false, Bool.false_or, Bool.and_false, Bool.and_true]) ⟨by simp (disch := first | (simp only [go_sem, Bool.and_self, eq_self]; done) | omega | (simp only [List.length_cons, List.length_nil]; omega)) only [go_sem, ↓reduceIte, Nat.reduceEqDiff, Nat.reduceAdd, Nat.reduceMul, Nat.reduceSub, Int.reduceToNat, Nat.reduceBEq, List.size_toArray, List.length_cons, List.length_nil, Bool.false_and, Bool.true_and, Bool.or_false, Bool.false_or, Bool.and_false, Bool.and_true], by simp (disch := first | (simp only [go_sem, Bool.and_self, eq_self]; done) | omega | (simp only [List.length_cons, List.length_nil]; omega)) only [go_sem, ↓reduceIte, Nat.reduceEqDiff, Nat.reduceAdd, Nat.reduceMul, Nat.reduceSub, Int.reduceToNat, Nat.reduceBEq, List.size_toArray, List.length_cons, List.length_nil, Bool.false_and, Bool.true_and, Bool.or_false, Bool.false_or, Bool.and_false, Bool.and_true], by simp (disch := first | (simp only [go_sem, Bool.and_self, eq_self]; done) | omega | (simp only [List.length_cons, List.length_nil]; omega)) only [go_sem, ↓reduceIte, Nat.reduceEqDiff, Nat.reduceAdd, Nat.reduceMul, Nat.reduceSub, Int.reduceToNat, Nat.reduceBEq, List.size_toArray, List.length_cons, List.length_nil, Bool.false_and, Bool.true_and, Bool.or_false, Bool.false_or, Bool.and_false, Bool.and_true], by simp (disch := first | (simp only [go_sem, Bool.and_self, eq_self]; done) | omega | (simp only [List.length_cons, List.length_nil]; omega)) only [go_sem, ↓reduceIte, Nat.reduceEqDiff, Nat.reduceAdd, Nat.reduceMul, Nat.reduceSub, Int.reduceToNat, Nat.reduceBEq, List.size_toArray, List.length_cons, List.length_nil, Bool.false_and, Bool.true_and, Bool.or_false, Bool.false_or, Bool.and_false, Bool.and_true], by simp (disch := first | (simp only [go_sem, Bool.and_self, eq_self]; done) | omega | (simp only [List.length_cons, List.length_nil]; omega)) only [go_sem, ↓reduceIte, Nat.reduceEqDiff, Nat.reduceAdd, Nat.reduceMul, Nat.reduceSub, Int.reduceToNat, Nat.reduceBEq, List.size_toArray, List.length_cons, List.length_nil, Bool.false_and, Bool.true_and, Bool.or_false, Bool.false_or, Bool.and_false, Bool.and_true], .nil, .nil, by simp (disch := first | (simp only [go_sem, Bool.and_self, eq_self]; done) | omega | (simp only [List.length_cons, List.length_nil]; omega)) only [go_sem, ↓reduceIte, Nat.reduceEqDiff, Nat.reduceAdd, Nat.reduceMul, Nat.reduceSub, Int.reduceToNat, Nat.reduceBEq, List.size_toArray, List.length_cons, List.length_nil, Bool.false_and, Bool.true_and, Bool.or_false, Bool.false_or, Bool.and_false, Bool.and_true]; decide, by simp (disch := first | (simp only [go_sem, Bool.and_self, eq_self]; done) | omega | (simp only [List.length_cons, List.length_nil]; omega)) only [go_sem, ↓reduceIte, Nat.reduceEqDiff, Nat.reduceAdd, Nat.reduceMul, Nat.reduceSub, Int.reduceToNat, Nat.reduceBEq, List.size_toArray, List.length_cons, List.length_nil, Bool.false_and, Bool.true_and, Bool.or_false, Bool.false_or, Bool.and_false, Bool.and_true], by simp (disch := first | (simp only [go_sem, Bool.and_self, eq_self]; done) | omega | (simp only [List.length_cons, List.length_nil]; omega)) only [go_sem, ↓reduceIte, Nat.reduceEqDiff, Nat.reduceAdd, Nat.reduceMul, Nat.reduceSub, Int.reduceToNat, Nat.reduceBEq, List.size_toArray, List.length_cons, List.length_nil, Bool.false_and, Bool.true_and, Bool.or_false, Bool.false_or, Bool.and_false, Bool.and_true], by simp (disch := first | (simp only [go_sem, Bool.and_self, eq_self]; done) | omega | (simp only [List.length_cons, List.length_nil]; omega)) only [go_sem, ↓reduceIte, Nat.reduceEqDiff, Nat.reduceAdd, Nat.reduceMul, Nat.reduceSub, Int.reduceToNat, Nat.reduceBEq, List.size_toArray, List.length_cons, List.length_nil, Bool.false_and, Bool.true_and, Bool.or_false, Bool.false_or, Bool.and_false, Bool.and_true], .inl ⟨rfl, rfl⟩, .inl ⟨rfl, rfl⟩, Dis.nil_l _⟩ ?_
    rintro i st h hi s8 ⟨s1, s2, s3, s6, s7, a, b, F⟩
    have b0 := F.b0
    by_cases hlt : i < p.length
    case neg =>
      have hii : i = p.length := by omega
      simp (disch := first | (simp only [go_sem, Bool.and_self, eq_self]; done) | omega | (simp only [List.length_cons, List.length_nil]; omega)) only [go_sem, ↓reduceIte, Nat.reduceEqDiff, Nat.reduceAdd, Nat.reduceMul, Nat.reduceSub, Int.reduceToNat, Nat.reduceBEq, List.size_toArray, List.length_cons, List.length_nil, Bool.false_and, Bool.true_and, Bool.or_false, Bool.false_or, Bool.and_false, Bool.and_true, s1, s2, s3, s6, s7, s8, hlt, b0]
      rw [hii] at F
      exact ⟨a, b, F⟩
    have b2 := F.b2
    have hnx := F.nx
    have l2 : 2 < h.nx := by omega
    -- what the two rows are, and where they lie
    have fin : ∀ (y z : AV) (h' : Hp) (r s : List Int), FF [LLI p, LLI t] ((List.range i).map (rowFP p v)) ((List.range i).map (rowFT t v x)) a b h' → Own (e1 I) 1 h' y r → Own (e1 I) 1 h' z s → Dis y a → Dis y b → Dis z a → Dis z b → Dis y z → r = rowFP p v i → s = rowFT t v x i →
        ∃ h1 G V h2 G' V', bsB Try.prog h' (some (.slice 25)) 1 [(0, y)] = some (.lst [[LI r]], h1) ∧ appB Try.prog h1 (some (.slice 25)) true a (.lst [[LI r]]) = some (V, G) ∧ G.bl 2 = some (.cells false false [a, b]) ∧ V.isCell = true ∧ (∀ g, storeC g 2 0 1 (some (.cells false false [a, b])) V.cells = some (.skp, g.put 2 (some (.cells false false [V, b])))) ∧
          bsB Try.prog (G.put 2 (some (.cells false false [V, b]))) (some (.slice 25)) 1 [(0, z)] = some (.lst [[LI s]], h2) ∧ appB Try.prog h2 (some (.slice 25)) true b (.lst [[LI s]]) = some (V', G') ∧ G'.bl 2 = some (.cells false false [V, b]) ∧ V'.isCell = true ∧ (∀ g, storeC g 2 1 1 (some (.cells false false [V, b])) V'.cells = some (.skp, g.put 2 (some (.cells false false [V, V'])))) ∧
          FF [LLI p, LLI t] ((List.range (i + 1)).map (rowFP p v)) ((List.range (i + 1)).map (rowFT t v x)) V V' (G'.put 2 (some (.cells false false [V, V']))) := by
      rintro y z h' r s F oy oz dya dyb dza dzb dyz rfl rfl
      obtain ⟨h1, s1, F1, k1⟩ := F.shut oy dya dyb
      have oz1 := k1 z _ oz dyz
      obtain ⟨G, V, g1, g2, g3, g4, g5, g6, F2, k2⟩ := F1.step1 (rowFP p v i) (by simp; omega)
      obtain ⟨oz2, dVz⟩ := k2 z _ oz1 dza.symm
      obtain ⟨h2, s2, F3, k3⟩ := F2.shut oz2 dVz.symm dzb
      obtain ⟨G', V', e1', e2, e3, e4, e5, e6, F4⟩ := F3.step2 (rowFT t v x i) (by simp; omega)
      rw [rows_snoc, rows_snoc] at F4
      exact ⟨h1, G, V, h2, G', V', bsB_one (P := Try.prog) 25 y (LI (rowFP p v i)) .nil h1 isz25 izero25 rfl rfl rfl s1 rfl rfl (pure_L _), g1, g5, g2, g6, bsB_one (P := Try.prog) 25 z (LI (rowFT t v x i)) .nil h2 isz25 izero25 rfl rfl rfl s2 rfl rfl (pure_L _), e1', e5, e2, e6, F4⟩
    have hca := own_cell F.ov
    have hcb := own_cell F.ow
    by_cases hiv : i = v
    · subst hiv
      have r1 : rowFP p i i = [] := by simp [rowFP]
      have r2 : rowFT t i x i = [16 * x] := by simp [rowFT]
      have hbs1 := fun h => bsB_one (P := Try.prog) 3 (I (16 * x)) (I (16 * x)) (I 0) h isz3 izero3 rfl rfl rfl rfl rfl rfl rfl
      have happ := fun h => app_nil (P := Try.prog) (h := h) (f := e1 I) 3 8 (I 0) (.lst [[I (16 * x)]]) [16 * x] isz3 ibytes3 izero3 rfl rfl rfl (by simp) (by simp)
      obtain ⟨Fa, oz, da, db, _⟩ := F.alloc [16 * x]
      obtain ⟨h1, G, V, h2, G', V', q1, q2, q3, q4, q5, q6, q7, q8, q9, q10, F4⟩ := fin .nil (.sl h.nx 0 1 1) _ [] [16 * x] Fa (.inl ⟨rfl, rfl⟩) oz (Dis.nil_l _) (Dis.nil_l _) da db (Dis.nil_l _) r1.symm r2.symm
      have u2 : ¬ 2 = h.nx := by omega
      have l2' : 2 < h.nx + 1 := by omega
      simp (disch := first | (simp only [go_sem, Bool.and_self, eq_self]; done) | omega | (simp only [List.length_cons, List.length_nil]; omega)) only [go_sem, ↓reduceIte, Nat.reduceEqDiff, Nat.reduceAdd, Nat.reduceMul, Nat.reduceSub, Int.reduceToNat, Nat.reduceBEq, List.size_toArray, List.length_cons, List.length_nil, Bool.false_and, Bool.true_and, Bool.or_false, Bool.false_or, Bool.and_false, Bool.and_true, s1, s2, s3, s6, s7, s8, hlt, eq_self, decide_true, b0, b2, hbs1, happ, l2, l2', u2, q1, q2, q3, q4, q5, q6, q7, q8, q9, q10, hca, hcb]
      rw [ForK_normal]
      exact ⟨hlt, by simp (disch := first | (simp only [go_sem, Bool.and_self, eq_self]; done) | omega | (simp only [List.length_cons, List.length_nil]; omega)) only [go_sem, ↓reduceIte, Nat.reduceEqDiff, Nat.reduceAdd, Nat.reduceMul, Nat.reduceSub, Int.reduceToNat, Nat.reduceBEq, List.size_toArray, List.length_cons, List.length_nil, Bool.false_and, Bool.true_and, Bool.or_false, Bool.false_or, Bool.and_false, Bool.and_true, s8], by simp (disch := first | (simp only [go_sem, Bool.and_self, eq_self]; done) | omega | (simp only [List.length_cons, List.length_nil]; omega)) only [go_sem, ↓reduceIte, Nat.reduceEqDiff, Nat.reduceAdd, Nat.reduceMul, Nat.reduceSub, Int.reduceToNat, Nat.reduceBEq, List.size_toArray, List.length_cons, List.length_nil, Bool.false_and, Bool.true_and, Bool.or_false, Bool.false_or, Bool.and_false, Bool.and_true, s1], by simp (disch := first | (simp only [go_sem, Bool.and_self, eq_self]; done) | omega | (simp only [List.length_cons, List.length_nil]; omega)) only [go_sem, ↓reduceIte, Nat.reduceEqDiff, Nat.reduceAdd, Nat.reduceMul, Nat.reduceSub, Int.reduceToNat, Nat.reduceBEq, List.size_toArray, List.length_cons, List.length_nil, Bool.false_and, Bool.true_and, Bool.or_false, Bool.false_or, Bool.and_false, Bool.and_true, s2], by simp (disch := first | (simp only [go_sem, Bool.and_self, eq_self]; done) | omega | (simp only [List.length_cons, List.length_nil]; omega)) only [go_sem, ↓reduceIte, Nat.reduceEqDiff, Nat.reduceAdd, Nat.reduceMul, Nat.reduceSub, Int.reduceToNat, Nat.reduceBEq, List.size_toArray, List.length_cons, List.length_nil, Bool.false_and, Bool.true_and, Bool.or_false, Bool.false_or, Bool.and_false, Bool.and_true, s3], by simp (disch := first | (simp only [go_sem, Bool.and_self, eq_self]; done) | omega | (simp only [List.length_cons, List.length_nil]; omega)) only [go_sem, ↓reduceIte, Nat.reduceEqDiff, Nat.reduceAdd, Nat.reduceMul, Nat.reduceSub, Int.reduceToNat, Nat.reduceBEq, List.size_toArray, List.length_cons, List.length_nil, Bool.false_and, Bool.true_and, Bool.or_false, Bool.false_or, Bool.and_false, Bool.and_true, s6], by simp (disch := first | (simp only [go_sem, Bool.and_self, eq_self]; done) | omega | (simp only [List.length_cons, List.length_nil]; omega)) only [go_sem, ↓reduceIte, Nat.reduceEqDiff, Nat.reduceAdd, Nat.reduceMul, Nat.reduceSub, Int.reduceToNat, Nat.reduceBEq, List.size_toArray, List.length_cons, List.length_nil, Bool.false_and, Bool.true_and, Bool.or_false, Bool.false_or, Bool.and_false, Bool.and_true, s7], V, V', F4⟩
    · have hiv' : ¬ (i : Int) = v := by omega
      have r1 : rowFP p v i = nth p i := by simp [rowFP, hiv]
      have r2 : rowFT t v x i = nth t i := by simp [rowFT, hiv]
      have hl1 := N.pl i hlt
      have hl2 : (nth t i).length ≤ 8 := by rw [N.tt i hlt]; exact Nat.pow_le_pow_right (n := 2) (by decide) hl1
      have happ1 := fun h => app_nil (P := Try.prog) (h := h) (f := e1 I) 3 8 (I 0) (LI (nth p i)) (nth p i) isz3 ibytes3 izero3 rfl (cellsOf_L _ _) (lenA_L _ _) (by omega) (by omega)
      have happ2 := fun h => app_nil (P := Try.prog) (h := h) (f := e1 I) 3 8 (I 0) (LI (nth t i)) (nth t i) isz3 ibytes3 izero3 rfl (cellsOf_L _ _) (lenA_L _ _) (by omega) (by omega)
      obtain ⟨Fa, oy, ya, yb, _⟩ := F.alloc (nth p i)
      obtain ⟨Fb, oz, za, zb, k⟩ := Fa.alloc (nth t i)
      obtain ⟨oy2, dyz⟩ := k _ _ oy
      obtain ⟨h1, G, V, h2, G', V', q1, q2, q3, q4, q5, q6, q7, q8, q9, q10, F4⟩ := fin _ _ _ _ _ Fb oy2 oz ya yb za zb dyz r1.symm r2.symm
      rw [alloc_nx] at q6
      have u2 : ¬ 2 = h.nx := by omega
      have u3 : ¬ 2 = h.nx + 1 := by omega
      have u4 : ¬ 0 = h.nx := by omega
      have u5 : ¬ 0 = h.nx + 1 := by omega
      have l2' : 2 < h.nx + 1 + 1 := by omega
      have hti : i < t.length := by have := N.tl; omega
      simp (disch := first | (simp only [go_sem, Bool.and_self, eq_self]; done) | omega | (simp only [List.length_cons, List.length_nil]; omega)) only [go_sem, ↓reduceIte, Nat.reduceEqDiff, Nat.reduceAdd, Nat.reduceMul, Nat.reduceSub, Int.reduceToNat, Nat.reduceBEq, List.size_toArray, List.length_cons, List.length_nil, Bool.false_and, Bool.true_and, Bool.or_false, Bool.false_or, Bool.and_false, Bool.and_true, s1, s2, s3, s6, s7, s8, hlt, hiv', b0, b2, happ1, happ2, l2, l2', u2, u3, u4, u5, q1, q2, q3, q4, q5, q6, q7, q8, q9, q10, hca, hcb, hti]
      rw [ForK_normal]
      exact ⟨hlt, by simp (disch := first | (simp only [go_sem, Bool.and_self, eq_self]; done) | omega | (simp only [List.length_cons, List.length_nil]; omega)) only [go_sem, ↓reduceIte, Nat.reduceEqDiff, Nat.reduceAdd, Nat.reduceMul, Nat.reduceSub, Int.reduceToNat, Nat.reduceBEq, List.size_toArray, List.length_cons, List.length_nil, Bool.false_and, Bool.true_and, Bool.or_false, Bool.false_or, Bool.and_false, Bool.and_true, s8], by simp (disch := first | (simp only [go_sem, Bool.and_self, eq_self]; done) | omega | (simp only [List.length_cons, List.length_nil]; omega)) only [go_sem, ↓reduceIte, Nat.reduceEqDiff, Nat.reduceAdd, Nat.reduceMul, Nat.reduceSub, Int.reduceToNat, Nat.reduceBEq, List.size_toArray, List.length_cons, List.length_nil, Bool.false_and, Bool.true_and, Bool.or_false, Bool.false_or, Bool.and_false, Bool.and_true, s1], by simp (disch := first | (simp only [go_sem, Bool.and_self, eq_self]; done) | omega | (simp only [List.length_cons, List.length_nil]; omega)) only [go_sem, ↓reduceIte, Nat.reduceEqDiff, Nat.reduceAdd, Nat.reduceMul, Nat.reduceSub, Int.reduceToNat, Nat.reduceBEq, List.size_toArray, List.length_cons, List.length_nil, Bool.false_and, Bool.true_and, Bool.or_false, Bool.false_or, Bool.and_false, Bool.and_true, s2], by simp (disch := first | (simp only [go_sem, Bool.and_self, eq_self]; done) | omega | (simp only [List.length_cons, List.length_nil]; omega)) only [go_sem, ↓reduceIte, Nat.reduceEqDiff, Nat.reduceAdd, Nat.reduceMul, Nat.reduceSub, Int.reduceToNat, Nat.reduceBEq, List.size_toArray, List.length_cons, List.length_nil, Bool.false_and, Bool.true_and, Bool.or_false, Bool.false_or, Bool.and_false, Bool.and_true, s3], by simp (disch := first | (simp only [go_sem, Bool.and_self, eq_self]; done) | omega | (simp only [List.length_cons, List.length_nil]; omega)) only [go_sem, ↓reduceIte, Nat.reduceEqDiff, Nat.reduceAdd, Nat.reduceMul, Nat.reduceSub, Int.reduceToNat, Nat.reduceBEq, List.size_toArray, List.length_cons, List.length_nil, Bool.false_and, Bool.true_and, Bool.or_false, Bool.false_or, Bool.and_false, Bool.and_true, s6], by simp (disch := first | (simp only [go_sem, Bool.and_self, eq_self]; done) | omega | (simp only [List.length_cons, List.length_nil]; omega)) only [go_sem, ↓reduceIte, Nat.reduceEqDiff, Nat.reduceAdd, Nat.reduceMul, Nat.reduceSub, Int.reduceToNat, Nat.reduceBEq, List.size_toArray, List.length_cons, List.length_nil, Bool.false_and, Bool.true_and, Bool.or_false, Bool.false_or, Bool.and_false, Bool.and_true, s7], V, V', F4⟩
  · rintro st h ⟨s1, s2, s3, s6, s7, a, b, F⟩
    have b1 := F.b1
    have b2 := F.b2
    have hca := own_cell F.ov
    have hcb := own_cell F.ow
    have o1 := own_put F.ov b1 (some (.cells false false [a, b]))
    have o2 := own_put F.ow b1 (some (.cells false false [a, b]))
    have hne : forceP p v ≠ [] := fun e => by
      have := congrArg List.length e
      simp only [forceP, List.length_map, List.length_range, List.length_nil] at this; omega
    have hne2 : forceT p t v x ≠ [] := fun e => by
      have := congrArg List.length e
      simp only [forceT, List.length_map, List.length_range, List.length_nil] at this; omega
    have hex := export_net 24 o1 o2 F.d (fun e => absurd e hne) (fun e => absurd e hne2)
    rw [netV_cons (fun e => hne e.1)] at hex
    simp (disch := first | (simp only [go_sem, Bool.and_self, eq_self]; done) | omega | (simp only [List.length_cons, List.length_nil]; omega)) only [go_sem, ↓reduceIte, Nat.reduceEqDiff, Nat.reduceAdd, Nat.reduceMul, Nat.reduceSub, Int.reduceToNat, Nat.reduceBEq, List.size_toArray, List.length_cons, List.length_nil, Bool.false_and, Bool.true_and, Bool.or_false, Bool.false_or, Bool.and_false, Bool.and_true, s1, s2, s3, s6, s7, b1, b2, hca, hcb, hex]

theorem f43_con (p t : List (List Int)) (hp : okLL p) (ht : okLL t) : Con Try.prog cfg 43 [.agg [LLI p, LLI t], .agg [LLI p, LLI t]] (.bool true) := by
  have ml : maxLen = 9223372036854775807 := by decide
  have hpl := hp.1
  have htl := ht.1
  refine Con_intro Try.func43 rfl ok43 (Nat.le_of_ble_eq_true rfl) rfl ?_
  simp only [Try.f43, Option.getD_some, initSt2]
  simp (disch := first | (simp only [go_sem, Bool.and_self, eq_self]; done) | omega | (simp only [List.length_cons, List.length_nil]; omega)) only [go_sem, ↓reduceIte, Nat.reduceEqDiff, Nat.reduceAdd, Nat.reduceMul, Nat.reduceSub, Int.reduceToNat, Nat.reduceBEq, List.size_toArray, List.length_cons, List.length_nil, Bool.false_and, Bool.true_and, Bool.or_false, Bool.false_or, Bool.and_false, Bool.and_true, eq_self, decide_true]
  refine WP_cut (fun st h => st 2 = .ptr 0 0 ∧ st 3 = .ptr 1 0 ∧ st 4 = .bool false ∧ 2 ≤ h.nx ∧ h.bl 0 = some (.cells false false [LLI p, LLI t]) ∧ h.bl 1 = some (.cells false false [LLI p, LLI t])) ?_ ?_
  · refine WP_for 5 p.length (fun i st h => st 2 = .ptr 0 0 ∧ st 3 = .ptr 1 0 ∧ st 4 = .bool false ∧ 2 ≤ h.nx ∧ h.bl 0 = some (.cells false false [LLI p, LLI t]) ∧ h.bl 1 = some (.cells false false [LLI p, LLI t])) (by simp (disch := first | (simp only [go_sem, Bool.and_self, eq_self]; done) | omega | (simp only [List.length_cons, List.length_nil]; omega)) only [go_sem, ↓reduceIte, Nat.reduceEqDiff, Nat.reduceAdd, Nat.reduceMul, Nat.reduceSub, Int.reduceToNat, Nat.reduceBEq, List.size_toArray, List.length_cons, List.length_nil, Bool.false_and, Bool.true_and, Bool.or_false, Bool.false_or, Bool.and_false, Bool.and_true]) ⟨by simp (disch := first | (simp only [go_sem, Bool.and_self, eq_self]; done) | omega | (simp only [List.length_cons, List.length_nil]; omega)) only [go_sem, ↓reduceIte, Nat.reduceEqDiff, Nat.reduceAdd, Nat.reduceMul, Nat.reduceSub, Int.reduceToNat, Nat.reduceBEq, List.size_toArray, List.length_cons, List.length_nil, Bool.false_and, Bool.true_and, Bool.or_false, Bool.false_or, Bool.and_false, Bool.and_true], by simp (disch := first | (simp only [go_sem, Bool.and_self, eq_self]; done) | omega | (simp only [List.length_cons, List.length_nil]; omega)) only [go_sem, ↓reduceIte, Nat.reduceEqDiff, Nat.reduceAdd, Nat.reduceMul, Nat.reduceSub, Int.reduceToNat, Nat.reduceBEq, List.size_toArray, List.length_cons, List.length_nil, Bool.false_and, Bool.true_and, Bool.or_false, Bool.false_or, Bool.and_false, Bool.and_true], by simp (disch := first | (simp only [go_sem, Bool.and_self, eq_self]; done) | omega | (simp only [List.length_cons, List.length_nil]; omega)) only [go_sem, ↓reduceIte, Nat.reduceEqDiff, Nat.reduceAdd, Nat.reduceMul, Nat.reduceSub, Int.reduceToNat, Nat.reduceBEq, List.size_toArray, List.length_cons, List.length_nil, Bool.false_and, Bool.true_and, Bool.or_false, Bool.false_or, Bool.and_false, Bool.and_true], by simp (disch := first | (simp only [go_sem, Bool.and_self, eq_self]; done) | omega | (simp only [List.length_cons, List.length_nil]; omega)) only [go_sem, ↓reduceIte, Nat.reduceEqDiff, Nat.reduceAdd, Nat.reduceMul, Nat.reduceSub, Int.reduceToNat, Nat.reduceBEq, List.size_toArray, List.length_cons, List.length_nil, Bool.false_and, Bool.true_and, Bool.or_false, Bool.false_or, Bool.and_false, Bool.and_true]; decide, by simp (disch := first | (simp only [go_sem, Bool.and_self, eq_self]; done) | omega | (simp only [List.length_cons, List.length_nil]; omega)) only [go_sem, ↓reduceIte, Nat.reduceEqDiff, Nat.reduceAdd, Nat.reduceMul, Nat.reduceSub, Int.reduceToNat, Nat.reduceBEq, List.size_toArray, List.length_cons, List.length_nil, Bool.false_and, Bool.true_and, Bool.or_false, Bool.false_or, Bool.and_false, Bool.and_true], by simp (disch := first | (simp only [go_sem, Bool.and_self, eq_self]; done) | omega | (simp only [List.length_cons, List.length_nil]; omega)) only [go_sem, ↓reduceIte, Nat.reduceEqDiff, Nat.reduceAdd, Nat.reduceMul, Nat.reduceSub, Int.reduceToNat, Nat.reduceBEq, List.size_toArray, List.length_cons, List.length_nil, Bool.false_and, Bool.true_and, Bool.or_false, Bool.false_or, Bool.and_false, Bool.and_true]⟩ ?_
    rintro i st h hi s5 ⟨s2, s3, s4, hnx, b0, b1⟩
    by_cases hlt : i < p.length
    case neg =>
      simp (disch := first | (simp only [go_sem, Bool.and_self, eq_self]; done) | omega | (simp only [List.length_cons, List.length_nil]; omega)) only [go_sem, ↓reduceIte, Nat.reduceEqDiff, Nat.reduceAdd, Nat.reduceMul, Nat.reduceSub, Int.reduceToNat, Nat.reduceBEq, List.size_toArray, List.length_cons, List.length_nil, Bool.false_and, Bool.true_and, Bool.or_false, Bool.false_or, Bool.and_false, Bool.and_true, s2, s3, s4, s5, hlt, b0]
      exact ⟨hnx, b1⟩
    have hm := hp.2 _ (nth_mem hlt)
    have l0 : 0 < h.nx := by omega
    have l1 : 1 < h.nx := by omega
    have k39 := fun h h' K => ConW_num (h := h) (h' := h') (K := K) (f39_con (nth p i) (nth p i) hm hm) rfl
    simp (disch := first | (simp only [go_sem, Bool.and_self, eq_self]; done) | omega | (simp only [List.length_cons, List.length_nil]; omega)) only [go_sem, ↓reduceIte, Nat.reduceEqDiff, Nat.reduceAdd, Nat.reduceMul, Nat.reduceSub, Int.reduceToNat, Nat.reduceBEq, List.size_toArray, List.length_cons, List.length_nil, Bool.false_and, Bool.true_and, Bool.or_false, Bool.false_or, Bool.and_false, Bool.and_true, s2, s3, s4, s5, hlt, b0, b1, l0, l1, k39, eq_self, decide_true]
    rw [ForK_normal]
    exact ⟨hlt, by simp (disch := first | (simp only [go_sem, Bool.and_self, eq_self]; done) | omega | (simp only [List.length_cons, List.length_nil]; omega)) only [go_sem, ↓reduceIte, Nat.reduceEqDiff, Nat.reduceAdd, Nat.reduceMul, Nat.reduceSub, Int.reduceToNat, Nat.reduceBEq, List.size_toArray, List.length_cons, List.length_nil, Bool.false_and, Bool.true_and, Bool.or_false, Bool.false_or, Bool.and_false, Bool.and_true, s5], by simp (disch := first | (simp only [go_sem, Bool.and_self, eq_self]; done) | omega | (simp only [List.length_cons, List.length_nil]; omega)) only [go_sem, ↓reduceIte, Nat.reduceEqDiff, Nat.reduceAdd, Nat.reduceMul, Nat.reduceSub, Int.reduceToNat, Nat.reduceBEq, List.size_toArray, List.length_cons, List.length_nil, Bool.false_and, Bool.true_and, Bool.or_false, Bool.false_or, Bool.and_false, Bool.and_true, s2], by simp (disch := first | (simp only [go_sem, Bool.and_self, eq_self]; done) | omega | (simp only [List.length_cons, List.length_nil]; omega)) only [go_sem, ↓reduceIte, Nat.reduceEqDiff, Nat.reduceAdd, Nat.reduceMul, Nat.reduceSub, Int.reduceToNat, Nat.reduceBEq, List.size_toArray, List.length_cons, List.length_nil, Bool.false_and, Bool.true_and, Bool.or_false, Bool.false_or, Bool.and_false, Bool.and_true, s3], by simp (disch := first | (simp only [go_sem, Bool.and_self, eq_self]; done) | omega | (simp only [List.length_cons, List.length_nil]; omega)) only [go_sem, ↓reduceIte, Nat.reduceEqDiff, Nat.reduceAdd, Nat.reduceMul, Nat.reduceSub, Int.reduceToNat, Nat.reduceBEq, List.size_toArray, List.length_cons, List.length_nil, Bool.false_and, Bool.true_and, Bool.or_false, Bool.false_or, Bool.and_false, Bool.and_true, s4], hnx, b0, b1⟩
  rintro st h ⟨s2, s3, s4, hnx, b0, b1⟩
  simp (disch := first | (simp only [go_sem, Bool.and_self, eq_self]; done) | omega | (simp only [List.length_cons, List.length_nil]; omega)) only [go_sem, ↓reduceIte, Nat.reduceEqDiff, Nat.reduceAdd, Nat.reduceMul, Nat.reduceSub, Int.reduceToNat, Nat.reduceBEq, List.size_toArray, List.length_cons, List.length_nil, Bool.false_and, Bool.true_and, Bool.or_false, Bool.false_or, Bool.and_false, Bool.and_true, s2, s3, s4]
  refine WP_cut (fun st h => st 4 = .bool false) ?_ ?_
  · refine WP_for 6 t.length (fun i st h => st 2 = .ptr 0 0 ∧ st 3 = .ptr 1 0 ∧ st 4 = .bool false ∧ 2 ≤ h.nx ∧ h.bl 0 = some (.cells false false [LLI p, LLI t]) ∧ h.bl 1 = some (.cells false false [LLI p, LLI t])) (by simp (disch := first | (simp only [go_sem, Bool.and_self, eq_self]; done) | omega | (simp only [List.length_cons, List.length_nil]; omega)) only [go_sem, ↓reduceIte, Nat.reduceEqDiff, Nat.reduceAdd, Nat.reduceMul, Nat.reduceSub, Int.reduceToNat, Nat.reduceBEq, List.size_toArray, List.length_cons, List.length_nil, Bool.false_and, Bool.true_and, Bool.or_false, Bool.false_or, Bool.and_false, Bool.and_true]) ⟨by simp (disch := first | (simp only [go_sem, Bool.and_self, eq_self]; done) | omega | (simp only [List.length_cons, List.length_nil]; omega)) only [go_sem, ↓reduceIte, Nat.reduceEqDiff, Nat.reduceAdd, Nat.reduceMul, Nat.reduceSub, Int.reduceToNat, Nat.reduceBEq, List.size_toArray, List.length_cons, List.length_nil, Bool.false_and, Bool.true_and, Bool.or_false, Bool.false_or, Bool.and_false, Bool.and_true, s2], by simp (disch := first | (simp only [go_sem, Bool.and_self, eq_self]; done) | omega | (simp only [List.length_cons, List.length_nil]; omega)) only [go_sem, ↓reduceIte, Nat.reduceEqDiff, Nat.reduceAdd, Nat.reduceMul, Nat.reduceSub, Int.reduceToNat, Nat.reduceBEq, List.size_toArray, List.length_cons, List.length_nil, Bool.false_and, Bool.true_and, Bool.or_false, Bool.false_or, Bool.and_false, Bool.and_true, s3], by simp (disch := first | (simp only [go_sem, Bool.and_self, eq_self]; done) | omega | (simp only [List.length_cons, List.length_nil]; omega)) only [go_sem, ↓reduceIte, Nat.reduceEqDiff, Nat.reduceAdd, Nat.reduceMul, Nat.reduceSub, Int.reduceToNat, Nat.reduceBEq, List.size_toArray, List.length_cons, List.length_nil, Bool.false_and, Bool.true_and, Bool.or_false, Bool.false_or, Bool.and_false, Bool.and_true, s4], hnx, b0, b1⟩ ?_
    rintro i st h hi s6 ⟨s2, s3, s4, hnx, b0, b1⟩
    by_cases hlt : i < t.length
    case neg =>
      simp (disch := first | (simp only [go_sem, Bool.and_self, eq_self]; done) | omega | (simp only [List.length_cons, List.length_nil]; omega)) only [go_sem, ↓reduceIte, Nat.reduceEqDiff, Nat.reduceAdd, Nat.reduceMul, Nat.reduceSub, Int.reduceToNat, Nat.reduceBEq, List.size_toArray, List.length_cons, List.length_nil, Bool.false_and, Bool.true_and, Bool.or_false, Bool.false_or, Bool.and_false, Bool.and_true, s2, s3, s4, s6, hlt, b0]
    have hm := ht.2 _ (nth_mem hlt)
    have l0 : 0 < h.nx := by omega
    have l1 : 1 < h.nx := by omega
    have k39 := fun h h' K => ConW_num (h := h) (h' := h') (K := K) (f39_con (nth t i) (nth t i) hm hm) rfl
    simp (disch := first | (simp only [go_sem, Bool.and_self, eq_self]; done) | omega | (simp only [List.length_cons, List.length_nil]; omega)) only [go_sem, ↓reduceIte, Nat.reduceEqDiff, Nat.reduceAdd, Nat.reduceMul, Nat.reduceSub, Int.reduceToNat, Nat.reduceBEq, List.size_toArray, List.length_cons, List.length_nil, Bool.false_and, Bool.true_and, Bool.or_false, Bool.false_or, Bool.and_false, Bool.and_true, s2, s3, s4, s6, hlt, b0, b1, l0, l1, k39, eq_self, decide_true]
    rw [ForK_normal]
    exact ⟨hlt, by simp (disch := first | (simp only [go_sem, Bool.and_self, eq_self]; done) | omega | (simp only [List.length_cons, List.length_nil]; omega)) only [go_sem, ↓reduceIte, Nat.reduceEqDiff, Nat.reduceAdd, Nat.reduceMul, Nat.reduceSub, Int.reduceToNat, Nat.reduceBEq, List.size_toArray, List.length_cons, List.length_nil, Bool.false_and, Bool.true_and, Bool.or_false, Bool.false_or, Bool.and_false, Bool.and_true, s6], by simp (disch := first | (simp only [go_sem, Bool.and_self, eq_self]; done) | omega | (simp only [List.length_cons, List.length_nil]; omega)) only [go_sem, ↓reduceIte, Nat.reduceEqDiff, Nat.reduceAdd, Nat.reduceMul, Nat.reduceSub, Int.reduceToNat, Nat.reduceBEq, List.size_toArray, List.length_cons, List.length_nil, Bool.false_and, Bool.true_and, Bool.or_false, Bool.false_or, Bool.and_false, Bool.and_true, s2], by simp (disch := first | (simp only [go_sem, Bool.and_self, eq_self]; done) | omega | (simp only [List.length_cons, List.length_nil]; omega)) only [go_sem, ↓reduceIte, Nat.reduceEqDiff, Nat.reduceAdd, Nat.reduceMul, Nat.reduceSub, Int.reduceToNat, Nat.reduceBEq, List.size_toArray, List.length_cons, List.length_nil, Bool.false_and, Bool.true_and, Bool.or_false, Bool.false_or, Bool.and_false, Bool.and_true, s3], by simp (disch := first | (simp only [go_sem, Bool.and_self, eq_self]; done) | omega | (simp only [List.length_cons, List.length_nil]; omega)) only [go_sem, ↓reduceIte, Nat.reduceEqDiff, Nat.reduceAdd, Nat.reduceMul, Nat.reduceSub, Int.reduceToNat, Nat.reduceBEq, List.size_toArray, List.length_cons, List.length_nil, Bool.false_and, Bool.true_and, Bool.or_false, Bool.false_or, Bool.and_false, Bool.and_true, s4], hnx, b0, b1⟩
  · rintro st h s4
    simp (disch := first | (simp only [go_sem, Bool.and_self, eq_self]; done) | omega | (simp only [List.length_cons, List.length_nil]; omega)) only [go_sem, ↓reduceIte, Nat.reduceEqDiff, Nat.reduceAdd, Nat.reduceMul, Nat.reduceSub, Int.reduceToNat, Nat.reduceBEq, List.size_toArray, List.length_cons, List.length_nil, Bool.false_and, Bool.true_and, Bool.or_false, Bool.false_or, Bool.and_false, Bool.and_true, s4]

/-! ### The forced network is one -/
theorem forceP_len (p : List (List Int)) (v : Nat) : (forceP p v).length = p.length := by simp [forceP]
theorem force_net {p t : List (List Int)} (h : netB p t = true) {v : Nat} {x : Int} (hx : 0 ≤ x ∧ x ≤ 1) : netB (forceP p v) (forceT p t v x) = true := by
  have N := Net.of h
  simp only [netB, Bool.and_eq_true, decide_eq_true_eq] at h ⊢
  obtain ⟨⟨h1, h2⟩, h3⟩ := h
  refine ⟨⟨by rw [forceP_len]; exact h1, by simp [forceP, forceT]⟩, all_range fun i hi => ?_⟩
  rw [forceP_len] at hi
  have e1 : nth (forceP p v) i = rowFP p v i := nth_map_range _ _ _ hi
  have e2 : nth (forceT p t v x) i = rowFT t v x i := nth_map_range _ _ _ hi
  rw [rowB_def, e1, e2]
  by_cases hiv : i = v
  · have r1 : rowFP p v i = [] := by simp [rowFP, hiv]
    have r2 : rowFT t v x i = [16 * x] := by simp [rowFT, hiv]
    rw [r1, r2]
    simp [rowOK, inB]; omega
  · have r1 : rowFP p v i = nth p i := by simp [rowFP, hiv]
    have r2 : rowFT t v x i = nth t i := by simp [rowFT, hiv]
    rw [r1, r2, ← rowB_def]
    exact range_all h3 hi

end Go.Proofs.Ytpkakapbepkfdaa

set_option linter.unusedVariables false
set_option linter.unusedSimpArgs false
set_option maxRecDepth 10000
namespace Go.Proofs.Ytpkakapbepkfdaa
open Go Go.Am

variable {h h' : Hp} {K : AV → Hp → Prop}

section
variable {c : Cfg} {st : St} {ops : Array Oper} {lim : Option Nat}
@[go_sem ↓ high] theorem W_b24z : StepW Try.prog c ops lim (.build 24 #[]) st h K = K (.agg [.nil, .nil]) h := by
  rw [W_build, show buildB Try.prog (Try.prog.underlying 24) (izero Try.prog 24) ((#[] : Array (Nat × Operand)).toList.map fun p => (p.1, ev st p.2)) = some (.agg [.nil, .nil]) by kernel_rfl]
  exact getW_some _
end
def forR (p t : List (List Int)) (v x : Int) : AV :=
  if netB p t && (inB v 0 (p.length - 1) && inB x 0 1) then .tup [.agg [LLI (forceP p v.toNat), LLI (forceT p t v.toNat x)], I 0] else .tup [.agg [.nil, .nil], I 2]
theorem netR_any (p t : List (List Int)) : (netR p t).isScalar = false := by unfold netR; split <;> rfl
theorem k46X (p t : List (List Int)) (hp : okLL p) (ht : okLL t) : ConW Try.prog cfgX 46 h (some ([.agg [LLI p, LLI t]], h')) K = K (netR p t) h' := by
  rw [ConW_any (lift (by decide) (f46_con p t hp ht)) (netR_any p t)]
  unfold netR; split <;> rfl
@[go_sem] theorem k49X (x lo hi : Int) : ConW Try.prog cfgX 49 h (some ([I x, I lo, I hi], h')) K = K (.bool (inB x lo hi)) h := ConW_num (lift (by decide) (f49_con x lo hi)) rfl
theorem f41_con (p t : List (List Int)) (hp : okLL p) (ht : okLL t) (v x : Int) : Con Try.prog cfgX 41 [.agg [LLI p, LLI t], I v, I x] (forR p t v x) := by
  have kn := fun h h' K => k46X (h := h) (h' := h') (K := K) p t hp ht
  have n20 : ¬ (2 : Int) = 0 := by decide
  have hs : ∀ h : Hp, sealA h (.agg [.nil, .nil]) = some (.agg [.nil, .nil], h) := fun _ => rfl
  have hex : ∀ (h : Hp), exportR Try.prog false false [24, 30] h (.tup [.agg [.nil, .nil], I 2]) = some (.tup [.agg [.nil, .nil], I 2]) := fun _ => rfl
  cases h1 : netB p t with
  | false =>
    have hr : forR p t v x = .tup [.agg [.nil, .nil], I 2] := by simp [forR, h1]
    refine Con_intro Try.func41 rfl okX41 (Nat.le_of_ble_eq_true rfl) rfl ?_
    simp only [Try.f41, Option.getD_some, initSt3]
    simp (disch := first | (simp only [go_sem, Bool.and_self, eq_self]; done) | omega | (simp only [List.length_cons, List.length_nil]; omega)) only [go_sem, ↓reduceIte, Nat.reduceEqDiff, Nat.reduceAdd, Nat.reduceMul, Nat.reduceSub, Int.reduceToNat, Nat.reduceBEq, List.size_toArray, List.length_cons, List.length_nil, Bool.false_and, Bool.true_and, Bool.or_false, Bool.false_or, Bool.and_false, Bool.and_true, kn, netR_f h1, n20, hr, hs, hex]
  | true =>
  have N := Net.of h1
  have hn1 := N.n1
  cases h2 : inB v 0 (p.length - 1) with
  | false =>
    have hr : forR p t v x = .tup [.agg [.nil, .nil], I 2] := by simp [forR, h2]
    refine Con_intro Try.func41 rfl okX41 (Nat.le_of_ble_eq_true rfl) rfl ?_
    simp only [Try.f41, Option.getD_some, initSt3]
    simp (disch := first | (simp only [go_sem, Bool.and_self, eq_self]; done) | omega | (simp only [List.length_cons, List.length_nil]; omega)) only [go_sem, ↓reduceIte, Nat.reduceEqDiff, Nat.reduceAdd, Nat.reduceMul, Nat.reduceSub, Int.reduceToNat, Nat.reduceBEq, List.size_toArray, List.length_cons, List.length_nil, Bool.false_and, Bool.true_and, Bool.or_false, Bool.false_or, Bool.and_false, Bool.and_true, kn, netR_t h1, n20, hr, hs, hex, h2]
  | true =>
  cases h3 : inB x 0 1 with
  | false =>
    have hr : forR p t v x = .tup [.agg [.nil, .nil], I 2] := by simp [forR, h3]
    refine Con_intro Try.func41 rfl okX41 (Nat.le_of_ble_eq_true rfl) rfl ?_
    simp only [Try.f41, Option.getD_some, initSt3]
    simp (disch := first | (simp only [go_sem, Bool.and_self, eq_self]; done) | omega | (simp only [List.length_cons, List.length_nil]; omega)) only [go_sem, ↓reduceIte, Nat.reduceEqDiff, Nat.reduceAdd, Nat.reduceMul, Nat.reduceSub, Int.reduceToNat, Nat.reduceBEq, List.size_toArray, List.length_cons, List.length_nil, Bool.false_and, Bool.true_and, Bool.or_false, Bool.false_or, Bool.and_false, Bool.and_true, kn, netR_t h1, n20, hr, hs, hex, h2, h3]
  | true =>
  have hr : forR p t v x = .tup [.agg [LLI (forceP p v.toNat), LLI (forceT p t v.toNat x)], I 0] := by simp [forR, h1, h2, h3]
  simp only [inB, Bool.and_eq_true, decide_eq_true_eq] at h2 h3
  have hv : ((v.toNat : Nat) : Int) = v := by omega
  have k70 := fun h h' K => ConW_any (h := h) (h' := h') (K := K) (f70_con p t N v.toNat (by omega) x h3) rfl
  rw [hv] at k70
  have hi : ∀ h : Hp, importR h (.agg [LLI (forceP p v.toNat), LLI (forceT p t v.toNat x)]) = (.agg [LLI (forceP p v.toNat), LLI (forceT p t v.toNat x)], h) := fun _ => rfl
  have h2' : inB v 0 (p.length - 1) = true := by simp [inB]; omega
  have h3' : inB x 0 1 = true := by simp [inB]; omega
  refine Con_intro Try.func41 rfl okX41 (Nat.le_of_ble_eq_true rfl) rfl ?_
  simp only [Try.f41, Option.getD_some, initSt3]
  simp (disch := first | (simp only [go_sem, Bool.and_self, eq_self]; done) | omega | (simp only [List.length_cons, List.length_nil]; omega)) only [go_sem, ↓reduceIte, Nat.reduceEqDiff, Nat.reduceAdd, Nat.reduceMul, Nat.reduceSub, Int.reduceToNat, Nat.reduceBEq, List.size_toArray, List.length_cons, List.length_nil, Bool.false_and, Bool.true_and, Bool.or_false, Bool.false_or, Bool.and_false, Bool.and_true, kn, netR_t h1, hr, h2', h3', k70, hi]

def efF (p t : List (List Int)) (v x w : Int) : AV := redu (sumB (forceP p v.toNat) (forceT p t v.toNat x) [(w, 1)]) (16 ^ p.length)
def efR (p t : List (List Int)) (v w : Int) : AV :=
  if netB p t && (inB v 0 (p.length - 1) && inB w 0 (p.length - 1)) then .tup [efF p t v 0 w, efF p t v 1 w, I 0] else .tup [.agg [I 0, I 0], .agg [I 0, I 0], I 2]
theorem f42_con (p t : List (List Int)) (hp : okLL p) (ht : okLL t) (v w : Int) : Con Try.prog cfgX 42 [.agg [LLI p, LLI t], I v, I w] (efR p t v w) := by
  have kn := fun h h' K => k46X (h := h) (h' := h') (K := K) p t hp ht
  have n20 : ¬ (2 : Int) = 0 := by decide
  cases h1 : netB p t with
  | false =>
    have hr : efR p t v w = .tup [.agg [I 0, I 0], .agg [I 0, I 0], I 2] := by simp [efR, h1]
    refine Con_intro Try.func42 rfl okX42 (Nat.le_of_ble_eq_true rfl) rfl ?_
    simp only [Try.f42, Option.getD_some, initSt3]
    simp (disch := first | (simp only [go_sem, Bool.and_self, eq_self]; done) | omega | (simp only [List.length_cons, List.length_nil]; omega)) only [go_sem, ↓reduceIte, Nat.reduceEqDiff, Nat.reduceAdd, Nat.reduceMul, Nat.reduceSub, Int.reduceToNat, Nat.reduceBEq, List.size_toArray, List.length_cons, List.length_nil, Bool.false_and, Bool.true_and, Bool.or_false, Bool.false_or, Bool.and_false, Bool.and_true, kn, netR_f h1, n20, hr]
  | true =>
  have N := Net.of h1
  have hn1 := N.n1
  cases h2 : inB v 0 (p.length - 1) with
  | false =>
    have hr : efR p t v w = .tup [.agg [I 0, I 0], .agg [I 0, I 0], I 2] := by simp [efR, h2]
    refine Con_intro Try.func42 rfl okX42 (Nat.le_of_ble_eq_true rfl) rfl ?_
    simp only [Try.f42, Option.getD_some, initSt3]
    simp (disch := first | (simp only [go_sem, Bool.and_self, eq_self]; done) | omega | (simp only [List.length_cons, List.length_nil]; omega)) only [go_sem, ↓reduceIte, Nat.reduceEqDiff, Nat.reduceAdd, Nat.reduceMul, Nat.reduceSub, Int.reduceToNat, Nat.reduceBEq, List.size_toArray, List.length_cons, List.length_nil, Bool.false_and, Bool.true_and, Bool.or_false, Bool.false_or, Bool.and_false, Bool.and_true, kn, netR_t h1, n20, hr, h2]
  | true =>
  cases h3 : inB w 0 (p.length - 1) with
  | false =>
    have hr : efR p t v w = .tup [.agg [I 0, I 0], .agg [I 0, I 0], I 2] := by simp [efR, h3]
    refine Con_intro Try.func42 rfl okX42 (Nat.le_of_ble_eq_true rfl) rfl ?_
    simp only [Try.f42, Option.getD_some, initSt3]
    simp (disch := first | (simp only [go_sem, Bool.and_self, eq_self]; done) | omega | (simp only [List.length_cons, List.length_nil]; omega)) only [go_sem, ↓reduceIte, Nat.reduceEqDiff, Nat.reduceAdd, Nat.reduceMul, Nat.reduceSub, Int.reduceToNat, Nat.reduceBEq, List.size_toArray, List.length_cons, List.length_nil, Bool.false_and, Bool.true_and, Bool.or_false, Bool.false_or, Bool.and_false, Bool.and_true, kn, netR_t h1, n20, hr, h2, h3]
  | true =>
  have hr : efR p t v w = .tup [efF p t v 0 w, efF p t v 1 w, I 0] := by simp [efR, h1, h2, h3]
  have h2' := h2
  have h3' := h3
  simp only [inB, Bool.and_eq_true, decide_eq_true_eq] at h2' h3'
  have hv : ((v.toNat : Nat) : Int) = v := by omega
  have k70 := fun (x : Int) (hx : 0 ≤ x ∧ x ≤ 1) h h' K => ConW_any (h := h) (h' := h') (K := K) (f70_con p t N v.toNat (by omega) x hx) rfl
  rw [hv] at k70
  have k700 := k70 0 (by decide)
  have k701 := k70 1 (by decide)
  refine Con_intro Try.func42 rfl okX42 (Nat.le_of_ble_eq_true rfl) rfl ?_
  simp only [Try.f42, Option.getD_some, initSt3]
  simp (disch := first | (simp only [go_sem, Bool.and_self, eq_self]; done) | omega | (simp only [List.length_cons, List.length_nil]; omega)) only [go_sem, ↓reduceIte, Nat.reduceEqDiff, Nat.reduceAdd, Nat.reduceMul, Nat.reduceSub, Int.reduceToNat, Nat.reduceBEq, List.size_toArray, List.length_cons, List.length_nil, Bool.false_and, Bool.true_and, Bool.or_false, Bool.false_or, Bool.and_false, Bool.and_true, kn, netR_t h1, hr, h2, h3]
  have hst0 : ∀ i, st0 i = .skp := fun _ => rfl
  have hi7 : ∀ (h : Hp) (x : Int), importR h (.agg [LLI (forceP p v.toNat), LLI (forceT p t v.toNat x)]) = (.agg [LLI (forceP p v.toNat), LLI (forceT p t v.toNat x)], h) := fun _ _ => rfl
  have hpk : putK w (I 1) [] = entF [(w, 1)] := rfl
  have n35 : (3 : Nat) < 5 := by decide
  have n36 : (3 : Nat) < 6 := by decide
  have n37 : (3 : Nat) < 7 := by decide
  have n38 : (3 : Nat) < 8 := by decide
  have n39 : (3 : Nat) < 9 := by decide
  have n45 : (4 : Nat) < 5 := by decide
  have n46 : (4 : Nat) < 6 := by decide
  have n47 : (4 : Nat) < 7 := by decide
  have n48 : (4 : Nat) < 8 := by decide
  have n49 : (4 : Nat) < 9 := by decide
  have n55 : ¬ (5 : Nat) < 5 := by decide
  have n56 : (5 : Nat) < 6 := by decide
  have n57 : (5 : Nat) < 7 := by decide
  have n58 : (5 : Nat) < 8 := by decide
  have n59 : (5 : Nat) < 9 := by decide
  have n65 : ¬ (6 : Nat) < 5 := by decide
  have n66 : ¬ (6 : Nat) < 6 := by decide
  have n67 : (6 : Nat) < 7 := by decide
  have n68 : (6 : Nat) < 8 := by decide
  have n69 : (6 : Nat) < 9 := by decide
  have n75 : ¬ (7 : Nat) < 5 := by decide
  have n76 : ¬ (7 : Nat) < 6 := by decide
  have n77 : ¬ (7 : Nat) < 7 := by decide
  have n78 : (7 : Nat) < 8 := by decide
  have n79 : (7 : Nat) < 9 := by decide
  have n85 : ¬ (8 : Nat) < 5 := by decide
  have n86 : ¬ (8 : Nat) < 6 := by decide
  have n87 : ¬ (8 : Nat) < 7 := by decide
  have n88 : ¬ (8 : Nat) < 8 := by decide
  have n89 : (8 : Nat) < 9 := by decide
  have l02 : (0 : Int) < 2 := by decide
  have l12 : (1 : Int) < 2 := by decide
  have n22 : ¬ (2 : Int) < 2 := by decide
  have netf := fun (x : Int) (hx : 0 ≤ x ∧ x ≤ 1) => Net.of (force_net h1 (v := v.toNat) hx)
  have hpw := pow16_le (Nat.le_refl p.length) hn1.2
  have hp0 := pow16_pos p.length
  have k55X := fun (x : Int) (hx : 0 ≤ x ∧ x ≤ 1) h h' K => ConW_num (h := h) (h' := h') (K := K) (lift (by decide) (f55_con _ _ (netf x hx) [(w, 1)])) rfl
  simp only [forceP_len] at k55X
  have k550 := k55X 0 (by decide)
  have k551 := k55X 1 (by decide)
  have k520 := fun h h' K => ConW_num (h := h) (h' := h') (K := K) (lift (by decide) (f52_con (forceP p v.toNat) (forceT p t v.toNat 0) p.length hn1.2)) rfl
  have k521 := fun h h' K => ConW_num (h := h) (h' := h') (K := K) (lift (by decide) (f52_con (forceP p v.toNat) (forceT p t v.toNat 1) p.length hn1.2)) rfl
  have sb0 := sumB_bounds (netf 0 (by decide)) [(w, 1)]
  have sb1 := sumB_bounds (netf 1 (by decide)) [(w, 1)]
  have k500 := fun h h' K => ConW_num (h := h) (h' := h') (K := K) (lift (by decide) (f50_con _ (16 ^ p.length) (show 0 ≤ sumB (forceP p v.toNat) (forceT p t v.toNat 0) [(w, 1)] ∧ _ from ⟨sb0.1, by omega⟩) (by omega))) rfl
  have k501 := fun h h' K => ConW_num (h := h) (h' := h') (K := K) (lift (by decide) (f50_con _ (16 ^ p.length) (show 0 ≤ sumB (forceP p v.toNat) (forceT p t v.toNat 1) [(w, 1)] ∧ _ from ⟨sb1.1, by omega⟩) (by omega))) rfl
  have hse := fun (id : Nat) (g : Hp) => show sealA (g.put id (some (.mp false (entF [(w, 1)])))) (.mp id) = some (mvE [(w, 1)], (g.put id (some (.mp false (entF [(w, 1)])))).put id (some (.mp true (entF [(w, 1)])))) by
    show sealV0 _ (.mp id) = _
    have hb : (g.put id (some (.mp false (entF [(w, 1)])))).bl id = some (.mp false (entF [(w, 1)])) := by simp [Hp.put]
    simp only [sealV0, AV.isPure, hb]
    simp [entF, AV.pureL, AV.isPure]
  have hix0 : idxAddrA Try.prog (some (.array 2 29)) (.ptr 4 0) (I 0) = some (.ptr 4 0) := by kernel_rfl
  have hix1 : idxAddrA Try.prog (some (.array 2 29)) (.ptr 4 0) (I 1) = some (.ptr 4 2) := by kernel_rfl
  have hst1 := fun (h : Hp) (a b c d x y : Int) => show storeC h 4 0 2 (some (.cells false false [I a, I b, I c, I d])) [I x, I y] = some (.skp, h.put 4 (some (.cells false false [I x, I y, I c, I d]))) by simp [storeC, setL, AV.isCell]
  have hst2 := fun (h : Hp) (a b c d x y : Int) => show storeC h 4 2 2 (some (.cells false false [I a, I b, I c, I d])) [I x, I y] = some (.skp, h.put 4 (some (.cells false false [I a, I b, I x, I y]))) by simp [storeC, setL, AV.isCell]
  refine WP_cut (fun st h => st 6 = .ptr 1 0 ∧ st 7 = .ptr 2 0 ∧ st 11 = .ptr 4 0 ∧ 5 ≤ h.nx ∧ h.bl 1 = some (.cells false false [I 0, I 0]) ∧ h.bl 2 = some (.cells false false [I 0, I 0]) ∧ ∃ a b c d, efF p t v 0 w = .agg [I a, I b] ∧ efF p t v 1 w = .agg [I c, I d] ∧ h.bl 4 = some (.cells false false [I a, I b, I c, I d])) ?_ ?_
  · refine WP_for 39 2 (fun i st h => st 1 = I v ∧ st 2 = I w ∧ st 6 = .ptr 1 0 ∧ st 7 = .ptr 2 0 ∧ st 9 = .ptr 3 0 ∧ st 11 = .ptr 4 0 ∧ h.nx = 5 + 2 * i ∧ h.bl 1 = some (.cells false false [I 0, I 0]) ∧ h.bl 2 = some (.cells false false [I 0, I 0]) ∧ h.bl 3 = some (.cells false false [LLI p, LLI t, I p.length]) ∧
      (i = 0 → st 13 = .skp) ∧ (i = 1 → st 13 = .ptr 5 0) ∧ (i = 0 → st 58 = .skp) ∧ (i = 1 → st 58 = .ptr 4 0) ∧ ∃ a b c d, (1 ≤ i → efF p t v 0 w = .agg [I a, I b]) ∧ (2 ≤ i → efF p t v 1 w = .agg [I c, I d]) ∧ h.bl 4 = some (.cells false false [I a, I b, I c, I d])) (by simp (disch := first | (simp only [go_sem, Bool.and_self, eq_self]; done) | omega | (simp only [List.length_cons, List.length_nil]; omega)) only [go_sem, ↓reduceIte, Nat.reduceEqDiff, Nat.reduceAdd, Nat.reduceMul, Nat.reduceSub, Int.reduceToNat, Nat.reduceBEq, List.size_toArray, List.length_cons, List.length_nil, Bool.false_and, Bool.true_and, Bool.or_false, Bool.false_or, Bool.and_false, Bool.and_true]) ⟨by simp (disch := first | (simp only [go_sem, Bool.and_self, eq_self]; done) | omega | (simp only [List.length_cons, List.length_nil]; omega)) only [go_sem, ↓reduceIte, Nat.reduceEqDiff, Nat.reduceAdd, Nat.reduceMul, Nat.reduceSub, Int.reduceToNat, Nat.reduceBEq, List.size_toArray, List.length_cons, List.length_nil, Bool.false_and, Bool.true_and, Bool.or_false, Bool.false_or, Bool.and_false, Bool.and_true], by simp (disch := first | (simp only [go_sem, Bool.and_self, eq_self]; done) | omega | (simp only [List.length_cons, List.length_nil]; omega)) only [go_sem, ↓reduceIte, Nat.reduceEqDiff, Nat.reduceAdd, Nat.reduceMul, Nat.reduceSub, Int.reduceToNat, Nat.reduceBEq, List.size_toArray, List.length_cons, List.length_nil, Bool.false_and, Bool.true_and, Bool.or_false, Bool.false_or, Bool.and_false, Bool.and_true], by simp (disch := first | (simp only [go_sem, Bool.and_self, eq_self]; done) | omega | (simp only [List.length_cons, List.length_nil]; omega)) only [go_sem, ↓reduceIte, Nat.reduceEqDiff, Nat.reduceAdd, Nat.reduceMul, Nat.reduceSub, Int.reduceToNat, Nat.reduceBEq, List.size_toArray, List.length_cons, List.length_nil, Bool.false_and, Bool.true_and, Bool.or_false, Bool.false_or, Bool.and_false, Bool.and_true], by simp (disch := first | (simp only [go_sem, Bool.and_self, eq_self]; done) | omega | (simp only [List.length_cons, List.length_nil]; omega)) only [go_sem, ↓reduceIte, Nat.reduceEqDiff, Nat.reduceAdd, Nat.reduceMul, Nat.reduceSub, Int.reduceToNat, Nat.reduceBEq, List.size_toArray, List.length_cons, List.length_nil, Bool.false_and, Bool.true_and, Bool.or_false, Bool.false_or, Bool.and_false, Bool.and_true], by simp (disch := first | (simp only [go_sem, Bool.and_self, eq_self]; done) | omega | (simp only [List.length_cons, List.length_nil]; omega)) only [go_sem, ↓reduceIte, Nat.reduceEqDiff, Nat.reduceAdd, Nat.reduceMul, Nat.reduceSub, Int.reduceToNat, Nat.reduceBEq, List.size_toArray, List.length_cons, List.length_nil, Bool.false_and, Bool.true_and, Bool.or_false, Bool.false_or, Bool.and_false, Bool.and_true], by simp (disch := first | (simp only [go_sem, Bool.and_self, eq_self]; done) | omega | (simp only [List.length_cons, List.length_nil]; omega)) only [go_sem, ↓reduceIte, Nat.reduceEqDiff, Nat.reduceAdd, Nat.reduceMul, Nat.reduceSub, Int.reduceToNat, Nat.reduceBEq, List.size_toArray, List.length_cons, List.length_nil, Bool.false_and, Bool.true_and, Bool.or_false, Bool.false_or, Bool.and_false, Bool.and_true], by simp (disch := first | (simp only [go_sem, Bool.and_self, eq_self]; done) | omega | (simp only [List.length_cons, List.length_nil]; omega)) only [go_sem, ↓reduceIte, Nat.reduceEqDiff, Nat.reduceAdd, Nat.reduceMul, Nat.reduceSub, Int.reduceToNat, Nat.reduceBEq, List.size_toArray, List.length_cons, List.length_nil, Bool.false_and, Bool.true_and, Bool.or_false, Bool.false_or, Bool.and_false, Bool.and_true], by simp (disch := first | (simp only [go_sem, Bool.and_self, eq_self]; done) | omega | (simp only [List.length_cons, List.length_nil]; omega)) only [go_sem, ↓reduceIte, Nat.reduceEqDiff, Nat.reduceAdd, Nat.reduceMul, Nat.reduceSub, Int.reduceToNat, Nat.reduceBEq, List.size_toArray, List.length_cons, List.length_nil, Bool.false_and, Bool.true_and, Bool.or_false, Bool.false_or, Bool.and_false, Bool.and_true], by simp (disch := first | (simp only [go_sem, Bool.and_self, eq_self]; done) | omega | (simp only [List.length_cons, List.length_nil]; omega)) only [go_sem, ↓reduceIte, Nat.reduceEqDiff, Nat.reduceAdd, Nat.reduceMul, Nat.reduceSub, Int.reduceToNat, Nat.reduceBEq, List.size_toArray, List.length_cons, List.length_nil, Bool.false_and, Bool.true_and, Bool.or_false, Bool.false_or, Bool.and_false, Bool.and_true], by simp (disch := first | (simp only [go_sem, Bool.and_self, eq_self]; done) | omega | (simp only [List.length_cons, List.length_nil]; omega)) only [go_sem, ↓reduceIte, Nat.reduceEqDiff, Nat.reduceAdd, Nat.reduceMul, Nat.reduceSub, Int.reduceToNat, Nat.reduceBEq, List.size_toArray, List.length_cons, List.length_nil, Bool.false_and, Bool.true_and, Bool.or_false, Bool.false_or, Bool.and_false, Bool.and_true], fun _ => by simp (disch := first | (simp only [go_sem, Bool.and_self, eq_self]; done) | omega | (simp only [List.length_cons, List.length_nil]; omega)) only [go_sem, ↓reduceIte, Nat.reduceEqDiff, Nat.reduceAdd, Nat.reduceMul, Nat.reduceSub, Int.reduceToNat, Nat.reduceBEq, List.size_toArray, List.length_cons, List.length_nil, Bool.false_and, Bool.true_and, Bool.or_false, Bool.false_or, Bool.and_false, Bool.and_true, hst0], by omega, fun _ => by simp (disch := first | (simp only [go_sem, Bool.and_self, eq_self]; done) | omega | (simp only [List.length_cons, List.length_nil]; omega)) only [go_sem, ↓reduceIte, Nat.reduceEqDiff, Nat.reduceAdd, Nat.reduceMul, Nat.reduceSub, Int.reduceToNat, Nat.reduceBEq, List.size_toArray, List.length_cons, List.length_nil, Bool.false_and, Bool.true_and, Bool.or_false, Bool.false_or, Bool.and_false, Bool.and_true, hst0], by omega, 0, 0, 0, 0, by omega, by omega, by simp (disch := first | (simp only [go_sem, Bool.and_self, eq_self]; done) | omega | (simp only [List.length_cons, List.length_nil]; omega)) only [go_sem, ↓reduceIte, Nat.reduceEqDiff, Nat.reduceAdd, Nat.reduceMul, Nat.reduceSub, Int.reduceToNat, Nat.reduceBEq, List.size_toArray, List.length_cons, List.length_nil, Bool.false_and, Bool.true_and, Bool.or_false, Bool.false_or, Bool.and_false, Bool.and_true]⟩ ?_
    rintro i st h hi s39 ⟨s1, s2, s6, s7, s9, s11, hn, b1, b2, b3, s13, s13', s58, s58', a, b, c, d, q1, q2, b4⟩
    by_cases hlt : i < 2
    case neg =>
      have hii : i = 2 := by omega
      subst hii
      change st 39 = I 2 at s39
      simp (disch := first | (simp only [go_sem, Bool.and_self, eq_self]; done) | omega | (simp only [List.length_cons, List.length_nil]; omega)) only [go_sem, ↓reduceIte, Nat.reduceEqDiff, Nat.reduceAdd, Nat.reduceMul, Nat.reduceSub, Int.reduceToNat, Nat.reduceBEq, List.size_toArray, List.length_cons, List.length_nil, Bool.false_and, Bool.true_and, Bool.or_false, Bool.false_or, Bool.and_false, Bool.and_true, s6, s7, s11, s39, n22]
      exact ⟨by omega, b1, b2, a, b, c, d, q1 (by omega), q2 (by omega), b4⟩
    have hiv : i = 0 ∨ i = 1 := by omega
    rcases hiv with rfl | rfl
    · change st 39 = I 0 at s39
      change h.nx = 5 at hn
      have s13 := s13 rfl
      have s58 := s58 rfl
      simp (disch := first | (simp only [go_sem, Bool.and_self, eq_self]; done) | omega | (simp only [List.length_cons, List.length_nil]; omega)) only [go_sem, ↓reduceIte, Nat.reduceEqDiff, Nat.reduceAdd, Nat.reduceMul, Nat.reduceSub, Int.reduceToNat, Nat.reduceBEq, List.size_toArray, List.length_cons, List.length_nil, Bool.false_and, Bool.true_and, Bool.or_false, Bool.false_or, Bool.and_false, Bool.and_true, s1, s2, s9, s11, s13, s58, s39, b3, b4, hn, l02, List.filterMap_cons, List.filterMap_nil, List.contains_nil, List.contains_cons, Bool.not_false, Bool.not_true, Bool.or_true, hst0]
      simp only [go_sem, hst0, List.filterMap_cons, List.filterMap_nil, s1, s2, s9, s11, s13, s58, s39, hn, b3, b4, n35, n36, n37, n38, n39, n45, n46, n47, n48, n49, n55, n56, n57, n58, n59, n65, n66, n67, n68, n69, n75, n76, n77, n78, n79, n85, n86, n87, n88, n89, decide_true, decide_false, Bool.not_false, Bool.not_true, Bool.and_true, Bool.true_and, Bool.false_and, Bool.and_false, Bool.true_or, Bool.or_true, Bool.or_false, Bool.false_or, List.contains_nil, List.contains_cons, List.nil_append, ↓reduceIte, Nat.reduceEqDiff, Nat.reduceBEq, Nat.reduceAdd, List.drop_succ_cons, List.drop_zero, List.getElem?_cons_zero, List.cons_append]
      simp only [go_sem, k700, hi7, hst0, s1, s2, s9, s11, s13, s58, s39, hn, b3, b4, n35, n36, n37, n38, n39, n45, n46, n47, n48, n49, n55, n56, n57, n58, n59, n65, n66, n67, n68, n69, n75, n76, n77, n78, n79, n85, n86, n87, n88, n89, decide_true, decide_false, Bool.not_false, Bool.not_true, Bool.and_true, Bool.true_and, Bool.false_and, Bool.and_false, Bool.true_or, Bool.or_true, Bool.or_false, Bool.false_or, List.contains_nil, List.contains_cons, List.nil_append, ↓reduceIte, Nat.reduceEqDiff, Nat.reduceBEq, Nat.reduceAdd, List.drop_succ_cons, List.drop_zero, List.getElem?_cons_zero, List.cons_append]
      simp only [List.size_toArray, List.length_cons, List.length_nil, Nat.reduceAdd, Nat.reduceBEq, Bool.false_and, Bool.and_false, Bool.true_and, Bool.false_or, Bool.or_false, Bool.true_or, Bool.or_true, Bool.and_true, regW_t]
      simp only [go_sem, hpk, hst0, List.filterMap_cons, List.filterMap_nil, s1, s2, s9, s11, s13, s58, s39, hn, b3, b4, n35, n36, n37, n38, n39, n45, n46, n47, n48, n49, n55, n56, n57, n58, n59, n65, n66, n67, n68, n69, n75, n76, n77, n78, n79, n85, n86, n87, n88, n89, decide_true, decide_false, Bool.not_false, Bool.not_true, Bool.and_true, Bool.true_and, Bool.false_and, Bool.and_false, Bool.true_or, Bool.or_true, Bool.or_false, Bool.false_or, List.contains_nil, List.contains_cons, List.nil_append, ↓reduceIte, Nat.reduceEqDiff, Nat.reduceBEq, Nat.reduceAdd, List.drop_succ_cons, List.drop_zero, List.getElem?_cons_zero, List.cons_append]
      simp only [go_sem, hpk, hse, k550, k520, k500, hix0, hst1, hst0, s1, s2, s9, s11, s13, s58, s39, hn, b3, b4, n35, n36, n37, n38, n39, n45, n46, n47, n48, n49, n55, n56, n57, n58, n59, n65, n66, n67, n68, n69, n75, n76, n77, n78, n79, n85, n86, n87, n88, n89, decide_true, decide_false, Bool.not_false, Bool.not_true, Bool.and_true, Bool.true_and, Bool.false_and, Bool.and_false, Bool.true_or, Bool.or_true, Bool.or_false, Bool.false_or, List.contains_nil, List.contains_cons, List.nil_append, ↓reduceIte, Nat.reduceEqDiff, Nat.reduceBEq, Nat.reduceAdd, List.drop_succ_cons, List.drop_zero, List.getElem?_cons_zero, List.cons_append]
      simp (disch := first | (simp only [go_sem, Bool.and_self, eq_self]; done) | omega | (simp only [List.length_cons, List.length_nil]; omega)) only [go_sem, ↓reduceIte, Nat.reduceEqDiff, Nat.reduceAdd, Nat.reduceMul, Nat.reduceSub, Int.reduceToNat, Nat.reduceBEq, List.size_toArray, List.length_cons, List.length_nil, Bool.false_and, Bool.true_and, Bool.or_false, Bool.false_or, Bool.and_false, Bool.and_true, hst1, s1, s2, s9, s11, s13, s58, s39, hn, b3, b4]
      rw [ForK_normal]
      exact ⟨by omega, by simp (disch := first | (simp only [go_sem, Bool.and_self, eq_self]; done) | omega | (simp only [List.length_cons, List.length_nil]; omega)) only [go_sem, ↓reduceIte, Nat.reduceEqDiff, Nat.reduceAdd, Nat.reduceMul, Nat.reduceSub, Int.reduceToNat, Nat.reduceBEq, List.size_toArray, List.length_cons, List.length_nil, Bool.false_and, Bool.true_and, Bool.or_false, Bool.false_or, Bool.and_false, Bool.and_true, s39]; rfl, by simp (disch := first | (simp only [go_sem, Bool.and_self, eq_self]; done) | omega | (simp only [List.length_cons, List.length_nil]; omega)) only [go_sem, ↓reduceIte, Nat.reduceEqDiff, Nat.reduceAdd, Nat.reduceMul, Nat.reduceSub, Int.reduceToNat, Nat.reduceBEq, List.size_toArray, List.length_cons, List.length_nil, Bool.false_and, Bool.true_and, Bool.or_false, Bool.false_or, Bool.and_false, Bool.and_true, s1], by simp (disch := first | (simp only [go_sem, Bool.and_self, eq_self]; done) | omega | (simp only [List.length_cons, List.length_nil]; omega)) only [go_sem, ↓reduceIte, Nat.reduceEqDiff, Nat.reduceAdd, Nat.reduceMul, Nat.reduceSub, Int.reduceToNat, Nat.reduceBEq, List.size_toArray, List.length_cons, List.length_nil, Bool.false_and, Bool.true_and, Bool.or_false, Bool.false_or, Bool.and_false, Bool.and_true, s2], by simp (disch := first | (simp only [go_sem, Bool.and_self, eq_self]; done) | omega | (simp only [List.length_cons, List.length_nil]; omega)) only [go_sem, ↓reduceIte, Nat.reduceEqDiff, Nat.reduceAdd, Nat.reduceMul, Nat.reduceSub, Int.reduceToNat, Nat.reduceBEq, List.size_toArray, List.length_cons, List.length_nil, Bool.false_and, Bool.true_and, Bool.or_false, Bool.false_or, Bool.and_false, Bool.and_true, s6], by simp (disch := first | (simp only [go_sem, Bool.and_self, eq_self]; done) | omega | (simp only [List.length_cons, List.length_nil]; omega)) only [go_sem, ↓reduceIte, Nat.reduceEqDiff, Nat.reduceAdd, Nat.reduceMul, Nat.reduceSub, Int.reduceToNat, Nat.reduceBEq, List.size_toArray, List.length_cons, List.length_nil, Bool.false_and, Bool.true_and, Bool.or_false, Bool.false_or, Bool.and_false, Bool.and_true, s7], by simp (disch := first | (simp only [go_sem, Bool.and_self, eq_self]; done) | omega | (simp only [List.length_cons, List.length_nil]; omega)) only [go_sem, ↓reduceIte, Nat.reduceEqDiff, Nat.reduceAdd, Nat.reduceMul, Nat.reduceSub, Int.reduceToNat, Nat.reduceBEq, List.size_toArray, List.length_cons, List.length_nil, Bool.false_and, Bool.true_and, Bool.or_false, Bool.false_or, Bool.and_false, Bool.and_true, s9], by simp (disch := first | (simp only [go_sem, Bool.and_self, eq_self]; done) | omega | (simp only [List.length_cons, List.length_nil]; omega)) only [go_sem, ↓reduceIte, Nat.reduceEqDiff, Nat.reduceAdd, Nat.reduceMul, Nat.reduceSub, Int.reduceToNat, Nat.reduceBEq, List.size_toArray, List.length_cons, List.length_nil, Bool.false_and, Bool.true_and, Bool.or_false, Bool.false_or, Bool.and_false, Bool.and_true, s11], by simp (disch := first | (simp only [go_sem, Bool.and_self, eq_self]; done) | omega | (simp only [List.length_cons, List.length_nil]; omega)) only [go_sem, ↓reduceIte, Nat.reduceEqDiff, Nat.reduceAdd, Nat.reduceMul, Nat.reduceSub, Int.reduceToNat, Nat.reduceBEq, List.size_toArray, List.length_cons, List.length_nil, Bool.false_and, Bool.true_and, Bool.or_false, Bool.false_or, Bool.and_false, Bool.and_true, hn], by simp (disch := first | (simp only [go_sem, Bool.and_self, eq_self]; done) | omega | (simp only [List.length_cons, List.length_nil]; omega)) only [go_sem, ↓reduceIte, Nat.reduceEqDiff, Nat.reduceAdd, Nat.reduceMul, Nat.reduceSub, Int.reduceToNat, Nat.reduceBEq, List.size_toArray, List.length_cons, List.length_nil, Bool.false_and, Bool.true_and, Bool.or_false, Bool.false_or, Bool.and_false, Bool.and_true, b1, hn], by simp (disch := first | (simp only [go_sem, Bool.and_self, eq_self]; done) | omega | (simp only [List.length_cons, List.length_nil]; omega)) only [go_sem, ↓reduceIte, Nat.reduceEqDiff, Nat.reduceAdd, Nat.reduceMul, Nat.reduceSub, Int.reduceToNat, Nat.reduceBEq, List.size_toArray, List.length_cons, List.length_nil, Bool.false_and, Bool.true_and, Bool.or_false, Bool.false_or, Bool.and_false, Bool.and_true, b2, hn], by simp (disch := first | (simp only [go_sem, Bool.and_self, eq_self]; done) | omega | (simp only [List.length_cons, List.length_nil]; omega)) only [go_sem, ↓reduceIte, Nat.reduceEqDiff, Nat.reduceAdd, Nat.reduceMul, Nat.reduceSub, Int.reduceToNat, Nat.reduceBEq, List.size_toArray, List.length_cons, List.length_nil, Bool.false_and, Bool.true_and, Bool.or_false, Bool.false_or, Bool.and_false, Bool.and_true, b3, hn], by omega, fun _ => by simp (disch := first | (simp only [go_sem, Bool.and_self, eq_self]; done) | omega | (simp only [List.length_cons, List.length_nil]; omega)) only [go_sem, ↓reduceIte, Nat.reduceEqDiff, Nat.reduceAdd, Nat.reduceMul, Nat.reduceSub, Int.reduceToNat, Nat.reduceBEq, List.size_toArray, List.length_cons, List.length_nil, Bool.false_and, Bool.true_and, Bool.or_false, Bool.false_or, Bool.and_false, Bool.and_true], by omega, fun _ => by simp (disch := first | (simp only [go_sem, Bool.and_self, eq_self]; done) | omega | (simp only [List.length_cons, List.length_nil]; omega)) only [go_sem, ↓reduceIte, Nat.reduceEqDiff, Nat.reduceAdd, Nat.reduceMul, Nat.reduceSub, Int.reduceToNat, Nat.reduceBEq, List.size_toArray, List.length_cons, List.length_nil, Bool.false_and, Bool.true_and, Bool.or_false, Bool.false_or, Bool.and_false, Bool.and_true], _, _, c, d, fun _ => rfl, by omega, by simp (disch := first | (simp only [go_sem, Bool.and_self, eq_self]; done) | omega | (simp only [List.length_cons, List.length_nil]; omega)) only [go_sem, ↓reduceIte, Nat.reduceEqDiff, Nat.reduceAdd, Nat.reduceMul, Nat.reduceSub, Int.reduceToNat, Nat.reduceBEq, List.size_toArray, List.length_cons, List.length_nil, Bool.false_and, Bool.true_and, Bool.or_false, Bool.false_or, Bool.and_false, Bool.and_true]⟩
    · change st 39 = I 1 at s39
      change h.nx = 7 at hn
      have s13 := s13' rfl
      have s58 := s58' rfl
      simp (disch := first | (simp only [go_sem, Bool.and_self, eq_self]; done) | omega | (simp only [List.length_cons, List.length_nil]; omega)) only [go_sem, ↓reduceIte, Nat.reduceEqDiff, Nat.reduceAdd, Nat.reduceMul, Nat.reduceSub, Int.reduceToNat, Nat.reduceBEq, List.size_toArray, List.length_cons, List.length_nil, Bool.false_and, Bool.true_and, Bool.or_false, Bool.false_or, Bool.and_false, Bool.and_true, s1, s2, s9, s11, s13, s58, s39, b3, b4, hn, l12, List.filterMap_cons, List.filterMap_nil, List.contains_nil, List.contains_cons, Bool.not_false, Bool.not_true, Bool.or_true, hst0]
      simp only [go_sem, hst0, List.filterMap_cons, List.filterMap_nil, s1, s2, s9, s11, s13, s58, s39, hn, b3, b4, n35, n36, n37, n38, n39, n45, n46, n47, n48, n49, n55, n56, n57, n58, n59, n65, n66, n67, n68, n69, n75, n76, n77, n78, n79, n85, n86, n87, n88, n89, decide_true, decide_false, Bool.not_false, Bool.not_true, Bool.and_true, Bool.true_and, Bool.false_and, Bool.and_false, Bool.true_or, Bool.or_true, Bool.or_false, Bool.false_or, List.contains_nil, List.contains_cons, List.nil_append, ↓reduceIte, Nat.reduceEqDiff, Nat.reduceBEq, Nat.reduceAdd, List.drop_succ_cons, List.drop_zero, List.getElem?_cons_zero, List.cons_append]
      simp only [go_sem, k701, hi7, hst0, s1, s2, s9, s11, s13, s58, s39, hn, b3, b4, n35, n36, n37, n38, n39, n45, n46, n47, n48, n49, n55, n56, n57, n58, n59, n65, n66, n67, n68, n69, n75, n76, n77, n78, n79, n85, n86, n87, n88, n89, decide_true, decide_false, Bool.not_false, Bool.not_true, Bool.and_true, Bool.true_and, Bool.false_and, Bool.and_false, Bool.true_or, Bool.or_true, Bool.or_false, Bool.false_or, List.contains_nil, List.contains_cons, List.nil_append, ↓reduceIte, Nat.reduceEqDiff, Nat.reduceBEq, Nat.reduceAdd, List.drop_succ_cons, List.drop_zero, List.getElem?_cons_zero, List.cons_append]
      simp only [List.size_toArray, List.length_cons, List.length_nil, Nat.reduceAdd, Nat.reduceBEq, Bool.false_and, Bool.and_false, Bool.true_and, Bool.false_or, Bool.or_false, Bool.true_or, Bool.or_true, Bool.and_true, regW_t]
      simp only [go_sem, hpk, hst0, List.filterMap_cons, List.filterMap_nil, s1, s2, s9, s11, s13, s58, s39, hn, b3, b4, n35, n36, n37, n38, n39, n45, n46, n47, n48, n49, n55, n56, n57, n58, n59, n65, n66, n67, n68, n69, n75, n76, n77, n78, n79, n85, n86, n87, n88, n89, decide_true, decide_false, Bool.not_false, Bool.not_true, Bool.and_true, Bool.true_and, Bool.false_and, Bool.and_false, Bool.true_or, Bool.or_true, Bool.or_false, Bool.false_or, List.contains_nil, List.contains_cons, List.nil_append, ↓reduceIte, Nat.reduceEqDiff, Nat.reduceBEq, Nat.reduceAdd, List.drop_succ_cons, List.drop_zero, List.getElem?_cons_zero, List.cons_append]
      simp only [go_sem, hpk, hse, k551, k521, k501, hix1, hst2, hst0, s1, s2, s9, s11, s13, s58, s39, hn, b3, b4, n35, n36, n37, n38, n39, n45, n46, n47, n48, n49, n55, n56, n57, n58, n59, n65, n66, n67, n68, n69, n75, n76, n77, n78, n79, n85, n86, n87, n88, n89, decide_true, decide_false, Bool.not_false, Bool.not_true, Bool.and_true, Bool.true_and, Bool.false_and, Bool.and_false, Bool.true_or, Bool.or_true, Bool.or_false, Bool.false_or, List.contains_nil, List.contains_cons, List.nil_append, ↓reduceIte, Nat.reduceEqDiff, Nat.reduceBEq, Nat.reduceAdd, List.drop_succ_cons, List.drop_zero, List.getElem?_cons_zero, List.cons_append]
      simp (disch := first | (simp only [go_sem, Bool.and_self, eq_self]; done) | omega | (simp only [List.length_cons, List.length_nil]; omega)) only [go_sem, ↓reduceIte, Nat.reduceEqDiff, Nat.reduceAdd, Nat.reduceMul, Nat.reduceSub, Int.reduceToNat, Nat.reduceBEq, List.size_toArray, List.length_cons, List.length_nil, Bool.false_and, Bool.true_and, Bool.or_false, Bool.false_or, Bool.and_false, Bool.and_true, hst2, s1, s2, s9, s11, s13, s58, s39, hn, b3, b4]
      have q1 := q1 (by omega)
      rw [ForK_normal]
      exact ⟨by omega, by simp (disch := first | (simp only [go_sem, Bool.and_self, eq_self]; done) | omega | (simp only [List.length_cons, List.length_nil]; omega)) only [go_sem, ↓reduceIte, Nat.reduceEqDiff, Nat.reduceAdd, Nat.reduceMul, Nat.reduceSub, Int.reduceToNat, Nat.reduceBEq, List.size_toArray, List.length_cons, List.length_nil, Bool.false_and, Bool.true_and, Bool.or_false, Bool.false_or, Bool.and_false, Bool.and_true, s39]; rfl, by simp (disch := first | (simp only [go_sem, Bool.and_self, eq_self]; done) | omega | (simp only [List.length_cons, List.length_nil]; omega)) only [go_sem, ↓reduceIte, Nat.reduceEqDiff, Nat.reduceAdd, Nat.reduceMul, Nat.reduceSub, Int.reduceToNat, Nat.reduceBEq, List.size_toArray, List.length_cons, List.length_nil, Bool.false_and, Bool.true_and, Bool.or_false, Bool.false_or, Bool.and_false, Bool.and_true, s1], by simp (disch := first | (simp only [go_sem, Bool.and_self, eq_self]; done) | omega | (simp only [List.length_cons, List.length_nil]; omega)) only [go_sem, ↓reduceIte, Nat.reduceEqDiff, Nat.reduceAdd, Nat.reduceMul, Nat.reduceSub, Int.reduceToNat, Nat.reduceBEq, List.size_toArray, List.length_cons, List.length_nil, Bool.false_and, Bool.true_and, Bool.or_false, Bool.false_or, Bool.and_false, Bool.and_true, s2], by simp (disch := first | (simp only [go_sem, Bool.and_self, eq_self]; done) | omega | (simp only [List.length_cons, List.length_nil]; omega)) only [go_sem, ↓reduceIte, Nat.reduceEqDiff, Nat.reduceAdd, Nat.reduceMul, Nat.reduceSub, Int.reduceToNat, Nat.reduceBEq, List.size_toArray, List.length_cons, List.length_nil, Bool.false_and, Bool.true_and, Bool.or_false, Bool.false_or, Bool.and_false, Bool.and_true, s6], by simp (disch := first | (simp only [go_sem, Bool.and_self, eq_self]; done) | omega | (simp only [List.length_cons, List.length_nil]; omega)) only [go_sem, ↓reduceIte, Nat.reduceEqDiff, Nat.reduceAdd, Nat.reduceMul, Nat.reduceSub, Int.reduceToNat, Nat.reduceBEq, List.size_toArray, List.length_cons, List.length_nil, Bool.false_and, Bool.true_and, Bool.or_false, Bool.false_or, Bool.and_false, Bool.and_true, s7], by simp (disch := first | (simp only [go_sem, Bool.and_self, eq_self]; done) | omega | (simp only [List.length_cons, List.length_nil]; omega)) only [go_sem, ↓reduceIte, Nat.reduceEqDiff, Nat.reduceAdd, Nat.reduceMul, Nat.reduceSub, Int.reduceToNat, Nat.reduceBEq, List.size_toArray, List.length_cons, List.length_nil, Bool.false_and, Bool.true_and, Bool.or_false, Bool.false_or, Bool.and_false, Bool.and_true, s9], by simp (disch := first | (simp only [go_sem, Bool.and_self, eq_self]; done) | omega | (simp only [List.length_cons, List.length_nil]; omega)) only [go_sem, ↓reduceIte, Nat.reduceEqDiff, Nat.reduceAdd, Nat.reduceMul, Nat.reduceSub, Int.reduceToNat, Nat.reduceBEq, List.size_toArray, List.length_cons, List.length_nil, Bool.false_and, Bool.true_and, Bool.or_false, Bool.false_or, Bool.and_false, Bool.and_true, s11], by simp (disch := first | (simp only [go_sem, Bool.and_self, eq_self]; done) | omega | (simp only [List.length_cons, List.length_nil]; omega)) only [go_sem, ↓reduceIte, Nat.reduceEqDiff, Nat.reduceAdd, Nat.reduceMul, Nat.reduceSub, Int.reduceToNat, Nat.reduceBEq, List.size_toArray, List.length_cons, List.length_nil, Bool.false_and, Bool.true_and, Bool.or_false, Bool.false_or, Bool.and_false, Bool.and_true, hn], by simp (disch := first | (simp only [go_sem, Bool.and_self, eq_self]; done) | omega | (simp only [List.length_cons, List.length_nil]; omega)) only [go_sem, ↓reduceIte, Nat.reduceEqDiff, Nat.reduceAdd, Nat.reduceMul, Nat.reduceSub, Int.reduceToNat, Nat.reduceBEq, List.size_toArray, List.length_cons, List.length_nil, Bool.false_and, Bool.true_and, Bool.or_false, Bool.false_or, Bool.and_false, Bool.and_true, b1, hn], by simp (disch := first | (simp only [go_sem, Bool.and_self, eq_self]; done) | omega | (simp only [List.length_cons, List.length_nil]; omega)) only [go_sem, ↓reduceIte, Nat.reduceEqDiff, Nat.reduceAdd, Nat.reduceMul, Nat.reduceSub, Int.reduceToNat, Nat.reduceBEq, List.size_toArray, List.length_cons, List.length_nil, Bool.false_and, Bool.true_and, Bool.or_false, Bool.false_or, Bool.and_false, Bool.and_true, b2, hn], by simp (disch := first | (simp only [go_sem, Bool.and_self, eq_self]; done) | omega | (simp only [List.length_cons, List.length_nil]; omega)) only [go_sem, ↓reduceIte, Nat.reduceEqDiff, Nat.reduceAdd, Nat.reduceMul, Nat.reduceSub, Int.reduceToNat, Nat.reduceBEq, List.size_toArray, List.length_cons, List.length_nil, Bool.false_and, Bool.true_and, Bool.or_false, Bool.false_or, Bool.and_false, Bool.and_true, b3, hn], by omega, by omega, by omega, by omega, a, b, _, _, fun _ => q1, fun _ => rfl, by simp (disch := first | (simp only [go_sem, Bool.and_self, eq_self]; done) | omega | (simp only [List.length_cons, List.length_nil]; omega)) only [go_sem, ↓reduceIte, Nat.reduceEqDiff, Nat.reduceAdd, Nat.reduceMul, Nat.reduceSub, Int.reduceToNat, Nat.reduceBEq, List.size_toArray, List.length_cons, List.length_nil, Bool.false_and, Bool.true_and, Bool.or_false, Bool.false_or, Bool.and_false, Bool.and_true]⟩
  · rintro st h ⟨s6, s7, s11, hnx, b1, b2, a, b, c, d, q1, q2, b4⟩
    have l4 : 4 < h.nx := by omega
    have l1 : 1 < h.nx := by omega
    have l2 : 2 < h.nx := by omega
    have hl0 : ∀ u, loadC (some (.struct u)) (some 2) (some ([I a, I b, I c, I d], 0)) = some (.agg [I a, I b]) := fun u => loadC_agg _ 2 rfl _ 0 (by simp)
    have hl2 : ∀ u, loadC (some (.struct u)) (some 2) (some ([I a, I b, I c, I d], 2)) = some (.agg [I c, I d]) := fun u => loadC_agg _ 2 rfl _ 2 (by simp)
    simp (disch := first | (simp only [go_sem, Bool.and_self, eq_self]; done) | omega | (simp only [List.length_cons, List.length_nil]; omega)) only [go_sem, ↓reduceIte, Nat.reduceEqDiff, Nat.reduceAdd, Nat.reduceMul, Nat.reduceSub, Int.reduceToNat, Nat.reduceBEq, List.size_toArray, List.length_cons, List.length_nil, Bool.false_and, Bool.true_and, Bool.or_false, Bool.false_or, Bool.and_false, Bool.and_true, s6, s7, s11, hix0, hix1, b1, b2, b4, l1, l2, l4, hl0, hl2, List.filterMap_cons, List.filterMap_nil, List.contains_nil, List.contains_cons, Bool.not_false, Bool.not_true, Bool.or_true, hst0]
    rw [q1, q2]

end Go.Proofs.Ytpkakapbepkfdaa

set_option linter.unusedVariables false
set_option linter.unusedSimpArgs false
set_option maxRecDepth 10000
namespace Go.Proofs.Ytpkakapbepkfdaa
open Go Go.Am

variable {h h' : Hp} {K : AV → Hp → Prop}

theorem f41_nil (v x : Int) : Con Try.prog cfgX 41 [.agg [.nil, .nil], I v, I x] (.tup [.agg [.nil, .nil], I 2]) := by
  have n20 : ¬ (2 : Int) = 0 := by decide
  have k46n : Con Try.prog cfg 46 [.agg [.nil, .nil]] (.tup [.agg [.nil, .nil, I 0], I 2]) := ⟨100, by kernel_rfl⟩
  have kn := fun h h' K => ConW_any (h := h) (h' := h') (K := K) (lift (by decide) k46n) rfl
  have hi : ∀ h : Hp, importR h (.tup [.agg [.nil, .nil, I 0], I 2]) = (.tup [.agg [.nil, .nil, I 0], I 2], h) := fun _ => rfl
  have hs : ∀ h : Hp, sealA h (.agg [.nil, .nil]) = some (.agg [.nil, .nil], h) := fun _ => rfl
  have hex : ∀ (h : Hp), exportR Try.prog false false [24, 30] h (.tup [.agg [.nil, .nil], I 2]) = some (.tup [.agg [.nil, .nil], I 2]) := fun _ => rfl
  refine Con_intro Try.func41 rfl okX41 (Nat.le_of_ble_eq_true rfl) rfl ?_
  simp only [Try.f41, Option.getD_some, initSt3]
  simp (disch := first | (simp only [go_sem, Bool.and_self, eq_self]; done) | omega | (simp only [List.length_cons, List.length_nil]; omega)) only [go_sem, ↓reduceIte, Nat.reduceEqDiff, Nat.reduceAdd, Nat.reduceMul, Nat.reduceSub, Int.reduceToNat, Nat.reduceBEq, List.size_toArray, List.length_cons, List.length_nil, Bool.false_and, Bool.true_and, Bool.or_false, Bool.false_or, Bool.and_false, Bool.and_true, kn, hi, n20, hs, hex]
theorem f42_nil (v w : Int) : Con Try.prog cfgX 42 [.agg [.nil, .nil], I v, I w] (.tup [.agg [I 0, I 0], .agg [I 0, I 0], I 2]) := by
  have n20 : ¬ (2 : Int) = 0 := by decide
  have k46n : Con Try.prog cfg 46 [.agg [.nil, .nil]] (.tup [.agg [.nil, .nil, I 0], I 2]) := ⟨100, by kernel_rfl⟩
  have kn := fun h h' K => ConW_any (h := h) (h' := h') (K := K) (lift (by decide) k46n) rfl
  have hi : ∀ h : Hp, importR h (.tup [.agg [.nil, .nil, I 0], I 2]) = (.tup [.agg [.nil, .nil, I 0], I 2], h) := fun _ => rfl
  have hs : ∀ h : Hp, sealA h (.agg [.nil, .nil]) = some (.agg [.nil, .nil], h) := fun _ => rfl
  refine Con_intro Try.func42 rfl okX42 (Nat.le_of_ble_eq_true rfl) rfl ?_
  simp only [Try.f42, Option.getD_some, initSt3]
  simp (disch := first | (simp only [go_sem, Bool.and_self, eq_self]; done) | omega | (simp only [List.length_cons, List.length_nil]; omega)) only [go_sem, ↓reduceIte, Nat.reduceEqDiff, Nat.reduceAdd, Nat.reduceMul, Nat.reduceSub, Int.reduceToNat, Nat.reduceBEq, List.size_toArray, List.length_cons, List.length_nil, Bool.false_and, Bool.true_and, Bool.or_false, Bool.false_or, Bool.and_false, Bool.and_true, kn, hi, n20, hs]
theorem one_fact {n : Nat} {w : Int} (hw : 0 ≤ w ∧ w < n) (x : Int) (hx : 0 ≤ x ∧ x ≤ 1) : factsB n [(w, x)] = true := by
  refine all_range fun i hi => ?_
  have : i = 0 := by simpa using hi
  subst this
  simp [factB, inB, nth]; omega
theorem ref_one {p t : List (List Int)} (h1 : netB p t = true) {w : Int} (hw : 0 ≤ w ∧ w < p.length) : refC p t [(w, 1)] [] = .tup [redu (sumB p t [(w, 1)]) (16 ^ p.length), I 0] := by
  have hf := one_fact (n := p.length) hw 1 (by decide)
  have N := Net.of h1
  have hz : refS p t [] [] = 16 ^ p.length := by
    rw [← total_weight N]
    refine sumN_congr fun x hx => ?_
    have : agreeB (rowN p.length x) [] = true := rfl
    simp [refT, this]
  have hs := sum_ref (p := p) (t := t) (g := []) (f := [(w, 1)]) rfl hf (by rw [clashB, List.any_eq_false]; intro q _; simp [phi])
  have hp := pow16_pos p.length
  have h0 : factsB p.length [] = true := rfl
  rw [refC, hf, h0, hz, ← hs]
  have hne : ¬ (16 : Int) ^ p.length = 0 := by omega
  simp only [Bool.and_self, if_true, hne, if_false, List.nil_append]
set_option maxHeartbeats 1000000 in
theorem f13_con (p t : List (List Int)) (v x : Int) (hp : okLL p) (ht : okLL t) : Con Try.prog cfgX 13 [.agg [LLI p, LLI t], I v, I x] (.bool true) := by
  have ml : maxLen = 9223372036854775807 := by decide
  have k16 := fun h h' K => ConW_any (h := h) (h' := h') (K := K) (lift (by decide) (f16_con p t hp ht)) (by unfold netV; split <;> rfl)
  have n20 : ¬ (2 : Int) = 0 := by decide
  have z00 : ((0 : Nat) : Int) = 0 := rfl
  have okp := tableM_ok p
  have okt := tableM_ok t
  have hs : ∀ h : Hp, sealA h (.agg [.nil, .nil]) = some (.agg [.nil, .nil], h) := fun _ => rfl
  have hi2 : ∀ (h : Hp) (c : Int), importR h (.tup [.agg [.nil, .nil], I c]) = (.tup [.agg [.nil, .nil], I c], h) := fun _ _ => rfl
  generalize tableM p = p' at *
  generalize tableM t = t' at *
  by_cases hnil : p' = [] ∧ t' = []
  · obtain ⟨rfl, rfl⟩ := hnil
    rw [netV_nil] at k16
    have k41 := fun h h' K => ConW_any (h := h) (h' := h') (K := K) (f41_nil v x) rfl
    have k42 := fun h h' K => ConW_num (h := h) (h' := h') (K := K) (f42_nil v x) rfl
    have k19 := fun h h' K => ConW_num (h := h) (h' := h') (K := K) (lift (by decide) f19_nil) rfl
    have hi : ∀ h : Hp, importR h (.agg [.nil, .nil]) = (.agg [.nil, .nil], h) := fun _ => rfl
    refine Con_intro Try.func13 rfl okX13 (Nat.le_of_ble_eq_true rfl) rfl ?_
    simp only [Try.f13, Option.getD_some, initSt3]
    simp (disch := first | (simp only [go_sem, Bool.and_self, eq_self]; done) | omega | (simp only [List.length_cons, List.length_nil]; omega)) only [go_sem, ↓reduceIte, Nat.reduceEqDiff, Nat.reduceAdd, Nat.reduceMul, Nat.reduceSub, Int.reduceToNat, Nat.reduceBEq, List.size_toArray, List.length_cons, List.length_nil, Bool.false_and, Bool.true_and, Bool.or_false, Bool.false_or, Bool.and_false, Bool.and_true, k16, k41, k42, k19, hi, hi2, hs, n20, z00]
  rw [netV_cons hnil] at k16
  have hi : ∀ h : Hp, importR h (.agg [LLI p', LLI t']) = (.agg [LLI p', LLI t'], h) := fun _ => rfl
  have kr := fun h h' K => ConW_num (h := h) (h' := h') (K := K) (lift (by decide) (f19_con p' t' okp okt)) rfl
  have k41 := fun h h' K => ConW_any (h := h) (h' := h') (K := K) (f41_con p' t' okp okt v x) (by unfold forR; split <;> rfl)
  have k42 := fun h h' K => ConW_num (h := h) (h' := h') (K := K) (f42_con p' t' okp okt v x) (by unfold efR; split <;> rfl)
  by_cases hbad : netB p' t' = false ∨ v < 0 ∨ (p'.length : Int) ≤ v
  · have e1 : forR p' t' v x = .tup [.agg [.nil, .nil], I 2] := by
      unfold forR
      rw [if_neg]
      simp only [inB, Bool.and_eq_true, decide_eq_true_eq]
      rintro ⟨a, ⟨b, c⟩, d⟩
      rcases hbad with h | h | h
      · rw [a] at h; cases h
      · omega
      · omega
    have e2 : efR p' t' v x = .tup [.agg [I 0, I 0], .agg [I 0, I 0], I 2] := by
      unfold efR
      rw [if_neg]
      simp only [inB, Bool.and_eq_true, decide_eq_true_eq]
      rintro ⟨a, ⟨b, c⟩, d⟩
      rcases hbad with h | h | h
      · rw [a] at h; cases h
      · omega
      · omega
    rw [e1] at k41
    rw [e2] at k42
    cases h1 : netB p' t' with
    | false =>
      refine Con_intro Try.func13 rfl okX13 (Nat.le_of_ble_eq_true rfl) rfl ?_
      simp only [Try.f13, Option.getD_some, initSt3]
      simp (disch := first | (simp only [go_sem, Bool.and_self, eq_self]; done) | omega | (simp only [List.length_cons, List.length_nil]; omega)) only [go_sem, ↓reduceIte, Nat.reduceEqDiff, Nat.reduceAdd, Nat.reduceMul, Nat.reduceSub, Int.reduceToNat, Nat.reduceBEq, List.size_toArray, List.length_cons, List.length_nil, Bool.false_and, Bool.true_and, Bool.or_false, Bool.false_or, Bool.and_false, Bool.and_true, k16, k41, k42, kr, hi, hi2, h1, hs, n20, z00]
    | true =>
      by_cases hv0 : v < 0
      case pos =>
        refine Con_intro Try.func13 rfl okX13 (Nat.le_of_ble_eq_true rfl) rfl ?_
        simp only [Try.f13, Option.getD_some, initSt3]
        simp (disch := first | (simp only [go_sem, Bool.and_self, eq_self]; done) | omega | (simp only [List.length_cons, List.length_nil]; omega)) only [go_sem, ↓reduceIte, Nat.reduceEqDiff, Nat.reduceAdd, Nat.reduceMul, Nat.reduceSub, Int.reduceToNat, Nat.reduceBEq, List.size_toArray, List.length_cons, List.length_nil, Bool.false_and, Bool.true_and, Bool.or_false, Bool.false_or, Bool.and_false, Bool.and_true, k16, k41, k42, kr, hi, hi2, h1, hs, n20, z00, hv0]
      case neg =>
        have hv1 : (p'.length : Int) ≤ v := by
          rcases hbad with h | h | h
          · rw [h1] at h; cases h
          · exact absurd h hv0
          · exact h
        refine Con_intro Try.func13 rfl okX13 (Nat.le_of_ble_eq_true rfl) rfl ?_
        simp only [Try.f13, Option.getD_some, initSt3]
        simp (disch := first | (simp only [go_sem, Bool.and_self, eq_self]; done) | omega | (simp only [List.length_cons, List.length_nil]; omega)) only [go_sem, ↓reduceIte, Nat.reduceEqDiff, Nat.reduceAdd, Nat.reduceMul, Nat.reduceSub, Int.reduceToNat, Nat.reduceBEq, List.size_toArray, List.length_cons, List.length_nil, Bool.false_and, Bool.true_and, Bool.or_false, Bool.false_or, Bool.and_false, Bool.and_true, k16, k41, k42, kr, hi, hi2, h1, hs, n20, z00, hv0, hv1]
  have h1 : netB p' t' = true := by
    cases h : netB p' t' with
    | true => rfl
    | false => exact absurd (.inl h) hbad
  have hv0 : ¬ v < 0 := fun h => hbad (.inr (.inl h))
  have hv1 : ¬ (p'.length : Int) ≤ v := fun h => hbad (.inr (.inr h))
  have N := Net.of h1
  have hn1 := N.n1
  have hvn : ((v.toNat : Nat) : Int) = v := by omega
  have k44 := fun (x : Int) (hx : 0 ≤ x ∧ x ≤ 1) h h' K => ConW_any (h := h) (h' := h') (K := K) (lift (by decide) (f44_con p' t' N v.toNat (by omega) x hx)) rfl
  rw [hvn] at k44
  have hif : ∀ (h : Hp) (x : Int), importR h (.agg [LLI (forceP p' v.toNat), LLI (forceT p' t' v.toNat x)]) = (.agg [LLI (forceP p' v.toNat), LLI (forceT p' t' v.toNat x)], h) := fun _ _ => rfl
  have hif2 : ∀ (h : Hp) (x c : Int), importR h (.tup [.agg [LLI (forceP p' v.toNat), LLI (forceT p' t' v.toNat x)], I c]) = (.tup [.agg [LLI (forceP p' v.toNat), LLI (forceT p' t' v.toNat x)], I c], h) := fun _ _ _ => rfl
  have k440 := k44 0 (by decide)
  have k441 := k44 1 (by decide)
  have fnet := fun (x : Int) (hx : 0 ≤ x ∧ x ≤ 1) => force_net h1 (v := v.toNat) hx
  have hbs := fun h => bsB_row (P := Try.prog) (h := h) (f := eP) (sz := 2) 46 (x, 1) (0, 0) isz46 izero46 (by decide)
  have e12 : eP (x, 1) = [I x, I 1] := rfl
  rw [e12] at hbs
  have hvB : inB v 0 (p'.length - 1) = true := by simp [inB]; omega
  have hfn : ((forceP p' v.toNat).length : Int) = p'.length := by rw [forceP_len]
  -- what Effect answers
  have eff : 0 ≤ x ∧ x < p'.length → efR p' t' v x = .tup [efF p' t' v 0 x, efF p' t' v 1 x, I 0] := fun h => by
    have : inB x 0 (p'.length - 1) = true := by simp [inB]; omega
    simp [efR, h1, hvB, this]
  have effb : ¬ (0 ≤ x ∧ x < p'.length) → efR p' t' v x = .tup [.agg [I 0, I 0], .agg [I 0, I 0], I 2] := fun h => by
    have : inB x 0 (p'.length - 1) = false := by
      rw [Bool.eq_false_iff]; intro h2
      simp only [inB, Bool.and_eq_true, decide_eq_true_eq] at h2; omega
    simp [efR, this]
  have k24 : 0 ≤ x ∧ x < p'.length → ∀ (y : Int), 0 ≤ y ∧ y ≤ 1 → ∀ h h' K, ConW Try.prog cfgX 24 h (some ([.agg [LLI (forceP p' v.toNat), LLI (forceT p' t' v.toNat y)], L eP [(x, 1)], .lst []], h')) K = K (.tup [efF p' t' v y x, I 0]) h := fun hx y hy h h' K => by
    have hr := ref_one (fnet y hy) (w := x) (by rw [forceP_len]; exact hx)
    rw [forceP_len] at hr
    have := ConW_num (h := h) (h' := h') (K := K) (lift (by decide) (f24_con (forceP p' v.toNat) (forceT p' t' v.toNat y) (Net.of (fnet y hy)) [(x, 1)] [] (by simp [ml]) (by simp))) (refC_scalar _ _ _ _)
    rw [hr] at this
    exact this
  have hex : ∀ y, ∃ a b : Int, efF p' t' v y x = .agg [I a, I b] := fun y => ⟨_, _, rfl⟩
  obtain ⟨a0, b0, he0⟩ := hex 0
  obtain ⟨a1, b1, he1⟩ := hex 1
  rw [he0, he1] at eff
  by_cases hx1 : x = 0 ∨ x = 1
  · have hxx : 0 ≤ x ∧ x ≤ 1 := by omega
    have e1 : forR p' t' v x = .tup [.agg [LLI (forceP p' v.toNat), LLI (forceT p' t' v.toNat x)], I 0] := by
      have : inB x 0 1 = true := by simp [inB]; omega
      simp [forR, h1, hvB, this]
    rw [e1] at k41
    have k44x := k44 x hxx
    have okf := okLL_net (fnet x hxx)
    have k43 := fun h h' K => ConW_num (h := h) (h' := h') (K := K) (lift (by decide) (f43_con _ _ okf.1 okf.2)) rfl
    have hx0 : ¬ x < 0 := by omega
    have hx7 : decide (x = 0) = true ∨ (decide (x = 0) = false ∧ decide (x = 1) = true) := by
      rcases hx1 with h | h
      · exact .inl (by simp [h])
      · exact .inr (by simp [h])
    by_cases hxn : x < p'.length
    case pos =>
      rw [eff (by omega)] at k42
      have c0 := k24 (by omega) 0 (by decide)
      have c1 := k24 (by omega) 1 (by decide)
      rw [he0] at c0
      rw [he1] at c1
      have hxn' : ¬ (p'.length : Int) ≤ x := by omega
      rcases hx7 with h7 | ⟨h7, h8⟩
      case inl =>
        refine Con_intro Try.func13 rfl okX13 (Nat.le_of_ble_eq_true rfl) rfl ?_
        simp only [Try.f13, Option.getD_some, initSt3]
        simp (disch := first | (simp only [go_sem, Bool.and_self, eq_self]; done) | omega | (simp only [List.length_cons, List.length_nil]; omega)) only [go_sem, ↓reduceIte, Nat.reduceEqDiff, Nat.reduceAdd, Nat.reduceMul, Nat.reduceSub, Int.reduceToNat, Nat.reduceBEq, List.size_toArray, List.length_cons, List.length_nil, Bool.false_and, Bool.true_and, Bool.or_false, Bool.false_or, Bool.and_false, Bool.and_true, k16, k41, k42, kr, hi, hif, hif2, h1, hv0, hv1, k44x, k43, hx0, hxn', h7, k440, k441, hbs, c0, c1, eq_self, decide_true]
      case inr =>
        refine Con_intro Try.func13 rfl okX13 (Nat.le_of_ble_eq_true rfl) rfl ?_
        simp only [Try.f13, Option.getD_some, initSt3]
        simp (disch := first | (simp only [go_sem, Bool.and_self, eq_self]; done) | omega | (simp only [List.length_cons, List.length_nil]; omega)) only [go_sem, ↓reduceIte, Nat.reduceEqDiff, Nat.reduceAdd, Nat.reduceMul, Nat.reduceSub, Int.reduceToNat, Nat.reduceBEq, List.size_toArray, List.length_cons, List.length_nil, Bool.false_and, Bool.true_and, Bool.or_false, Bool.false_or, Bool.and_false, Bool.and_true, k16, k41, k42, kr, hi, hif, hif2, h1, hv0, hv1, k44x, k43, hx0, hxn', h7, h8, k440, k441, hbs, c0, c1, eq_self, decide_true]
    case neg =>
      rw [effb (by omega)] at k42
      have hxn' : (p'.length : Int) ≤ x := by omega
      rcases hx7 with h7 | ⟨h7, h8⟩
      case inl =>
        refine Con_intro Try.func13 rfl okX13 (Nat.le_of_ble_eq_true rfl) rfl ?_
        simp only [Try.f13, Option.getD_some, initSt3]
        simp (disch := first | (simp only [go_sem, Bool.and_self, eq_self]; done) | omega | (simp only [List.length_cons, List.length_nil]; omega)) only [go_sem, ↓reduceIte, Nat.reduceEqDiff, Nat.reduceAdd, Nat.reduceMul, Nat.reduceSub, Int.reduceToNat, Nat.reduceBEq, List.size_toArray, List.length_cons, List.length_nil, Bool.false_and, Bool.true_and, Bool.or_false, Bool.false_or, Bool.and_false, Bool.and_true, k16, k41, k42, kr, hi, hif, hif2, h1, hv0, hv1, k44x, k43, hx0, hxn', h7, n20]
      case inr =>
        refine Con_intro Try.func13 rfl okX13 (Nat.le_of_ble_eq_true rfl) rfl ?_
        simp only [Try.f13, Option.getD_some, initSt3]
        simp (disch := first | (simp only [go_sem, Bool.and_self, eq_self]; done) | omega | (simp only [List.length_cons, List.length_nil]; omega)) only [go_sem, ↓reduceIte, Nat.reduceEqDiff, Nat.reduceAdd, Nat.reduceMul, Nat.reduceSub, Int.reduceToNat, Nat.reduceBEq, List.size_toArray, List.length_cons, List.length_nil, Bool.false_and, Bool.true_and, Bool.or_false, Bool.false_or, Bool.and_false, Bool.and_true, k16, k41, k42, kr, hi, hif, hif2, h1, hv0, hv1, k44x, k43, hx0, hxn', h7, h8, n20]
  · have e1 : forR p' t' v x = .tup [.agg [.nil, .nil], I 2] := by
      have : inB x 0 1 = false := by
        rw [Bool.eq_false_iff]; intro h2
        simp only [inB, Bool.and_eq_true, decide_eq_true_eq] at h2; omega
      simp [forR, this]
    rw [e1] at k41
    have h7 : ¬ x = 0 := fun h => hx1 (.inl h)
    have h8 : ¬ x = 1 := fun h => hx1 (.inr h)
    by_cases hx0 : x < 0
    case pos =>
      rw [effb (by omega)] at k42
      refine Con_intro Try.func13 rfl okX13 (Nat.le_of_ble_eq_true rfl) rfl ?_
      simp only [Try.f13, Option.getD_some, initSt3]
      simp (disch := first | (simp only [go_sem, Bool.and_self, eq_self]; done) | omega | (simp only [List.length_cons, List.length_nil]; omega)) only [go_sem, ↓reduceIte, Nat.reduceEqDiff, Nat.reduceAdd, Nat.reduceMul, Nat.reduceSub, Int.reduceToNat, Nat.reduceBEq, List.size_toArray, List.length_cons, List.length_nil, Bool.false_and, Bool.true_and, Bool.or_false, Bool.false_or, Bool.and_false, Bool.and_true, k16, k41, k42, kr, hi, hi2, h1, hs, hv0, hv1, hx0, h7, h8, n20, z00]
    case neg =>
      by_cases hxn : x < p'.length
      case pos =>
        rw [eff (by omega)] at k42
        have c0 := k24 (by omega) 0 (by decide)
        have c1 := k24 (by omega) 1 (by decide)
        rw [he0] at c0
        rw [he1] at c1
        have hxn' : ¬ (p'.length : Int) ≤ x := by omega
        refine Con_intro Try.func13 rfl okX13 (Nat.le_of_ble_eq_true rfl) rfl ?_
        simp only [Try.f13, Option.getD_some, initSt3]
        simp (disch := first | (simp only [go_sem, Bool.and_self, eq_self]; done) | omega | (simp only [List.length_cons, List.length_nil]; omega)) only [go_sem, ↓reduceIte, Nat.reduceEqDiff, Nat.reduceAdd, Nat.reduceMul, Nat.reduceSub, Int.reduceToNat, Nat.reduceBEq, List.size_toArray, List.length_cons, List.length_nil, Bool.false_and, Bool.true_and, Bool.or_false, Bool.false_or, Bool.and_false, Bool.and_true, k16, k41, k42, kr, hi, hi2, hif, h1, hs, hv0, hv1, hx0, hxn', h7, h8, n20, z00, k440, k441, hbs, c0, c1, eq_self, decide_true]
      case neg =>
        rw [effb (by omega)] at k42
        have hxn' : (p'.length : Int) ≤ x := by omega
        refine Con_intro Try.func13 rfl okX13 (Nat.le_of_ble_eq_true rfl) rfl ?_
        simp only [Try.f13, Option.getD_some, initSt3]
        simp (disch := first | (simp only [go_sem, Bool.and_self, eq_self]; done) | omega | (simp only [List.length_cons, List.length_nil]; omega)) only [go_sem, ↓reduceIte, Nat.reduceEqDiff, Nat.reduceAdd, Nat.reduceMul, Nat.reduceSub, Int.reduceToNat, Nat.reduceBEq, List.size_toArray, List.length_cons, List.length_nil, Bool.false_and, Bool.true_and, Bool.or_false, Bool.false_or, Bool.and_false, Bool.and_true, k16, k41, k42, kr, hi, hi2, h1, hs, hv0, hv1, hx0, hxn', h7, h8, n20, z00]

end Go.Proofs.Ytpkakapbepkfdaa
