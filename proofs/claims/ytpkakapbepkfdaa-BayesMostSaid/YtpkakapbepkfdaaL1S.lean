/-
  Chance and the reference's Chance are the same: plain Lean.
-/
import Derived.Test.YtpkakapbepkfdaaL1R
set_option linter.unusedVariables false
set_option linter.unusedSimpArgs false
set_option maxRecDepth 10000
namespace Go.Proofs.Ytpkakapbepkfdaa
open Go Go.Am

theorem sumN_add (f : Nat → Int) (a : Nat) : ∀ b, sumN f (a + b) = sumN f a + sumN (fun i => f (a + i)) b
  | 0 => by simp [sumN]
  | b + 1 => by rw [← Nat.add_assoc, sumN, sumN_add f a b, sumN]; omega
theorem rowN_zero {m x : Nat} (hx : x < 2 ^ m) : rowN (m + 1) x = 0 :: rowN m x := by
  simp only [rowN, List.range_succ_eq_map, List.map_cons, List.map_map]
  congr 1
  · rw [show m + 1 - 1 - 0 = m by omega, Nat.div_eq_of_lt hx]; rfl
  · refine List.map_congr_left fun j hj => ?_
    have := List.mem_range.1 hj
    simp only [Function.comp]
    rw [show m + 1 - 1 - (j + 1) = m - 1 - j by omega]
theorem rowN_one {m y : Nat} (hy : y < 2 ^ m) : rowN (m + 1) (2 ^ m + y) = 1 :: rowN m y := by
  simp only [rowN, List.range_succ_eq_map, List.map_cons, List.map_map]
  congr 1
  · have h2 : 0 < 2 ^ m := Nat.pow_pos (by decide)
    have : (2 ^ m + y) / 2 ^ m = 1 := by
      rw [Nat.add_div_left _ h2, Nat.div_eq_of_lt hy]
    rw [show m + 1 - 1 - 0 = m by omega, this]; rfl
  · refine List.map_congr_left fun j hj => ?_
    have hj := List.mem_range.1 hj
    simp only [Function.comp]
    rw [show m + 1 - 1 - (j + 1) = m - 1 - j by omega]
    have h2 : 0 < 2 ^ (m - 1 - j) := Nat.pow_pos (by decide)
    have e : 2 ^ m = 2 ^ (m - 1 - j) * (2 * 2 ^ j) := by
      rw [← Nat.pow_succ', ← Nat.pow_add]; congr 1; omega
    have : (2 ^ m + y) / 2 ^ (m - 1 - j) % 2 = y / 2 ^ (m - 1 - j) % 2 := by
      rw [e, Nat.mul_add_div h2]; omega
    rw [this]
def okFrom (φ : Int → Option Int) (i : Nat) : List Int → Bool
  | [] => true
  | x :: w => okv φ i x && okFrom φ (i + 1) w
theorem vis_sum (φ : Int → Option Int) (F : List Int → Int) : ∀ (m : Nat) (pre : List Int), ((vis φ m pre).map F).sum = sumN (fun x => if okFrom φ pre.length (rowN m x) then F (pre ++ rowN m x) else 0) (2 ^ m)
  | 0, pre => by simp [vis, sumN, rowN, okFrom]
  | m + 1, pre => by
    have h0 := vis_sum φ F m (pre ++ [0])
    have h1 := vis_sum φ F m (pre ++ [1])
    rw [show 2 ^ (m + 1) = 2 ^ m + 2 ^ m by rw [Nat.pow_succ]; omega, sumN_add]
    have e0 : sumN (fun x => if okFrom φ pre.length (rowN (m + 1) x) then F (pre ++ rowN (m + 1) x) else 0) (2 ^ m) = ((if okv φ pre.length 0 then vis φ m (pre ++ [0]) else []).map F).sum := by
      cases hk : okv φ pre.length 0 with
      | true =>
        simp only [if_true, h0, List.length_append, List.length_singleton]
        refine sumN_congr fun x hx => ?_
        rw [rowN_zero hx]
        simp [okFrom, hk]
      | false =>
        have : ∀ x, x < 2 ^ m → (if okFrom φ pre.length (rowN (m + 1) x) then F (pre ++ rowN (m + 1) x) else 0) = (fun _ => (0 : Int)) x := by
          intro x hx
          rw [rowN_zero hx]; simp [okFrom, hk]
        rw [sumN_congr this]
        have z : ∀ n, sumN (fun _ => (0 : Int)) n = 0 := by intro n; induction n with | zero => rfl | succ n ih => simp [sumN, ih]
        simp [z]
    have e1 : sumN (fun i => if okFrom φ pre.length (rowN (m + 1) (2 ^ m + i)) then F (pre ++ rowN (m + 1) (2 ^ m + i)) else 0) (2 ^ m) = ((if okv φ pre.length 1 then vis φ m (pre ++ [1]) else []).map F).sum := by
      cases hk : okv φ pre.length 1 with
      | true =>
        simp only [if_true, h1, List.length_append, List.length_singleton]
        refine sumN_congr fun x hx => ?_
        rw [rowN_one hx]
        simp [okFrom, hk]
      | false =>
        have : ∀ x, x < 2 ^ m → (if okFrom φ pre.length (rowN (m + 1) (2 ^ m + x)) then F (pre ++ rowN (m + 1) (2 ^ m + x)) else 0) = (fun _ => (0 : Int)) x := by
          intro x hx
          rw [rowN_one hx]; simp [okFrom, hk]
        rw [sumN_congr this]
        have z : ∀ n, sumN (fun _ => (0 : Int)) n = 0 := by intro n; induction n with | zero => rfl | succ n ih => simp [sumN, ih]
        simp [z]
    rw [e0, e1, vis, List.map_append, List.sum_append]
theorem okFrom_iff {φ : Int → Option Int} : ∀ {w : List Int} {i : Nat}, okFrom φ i w = true ↔ ∀ j, j < w.length → ∀ y, φ ((i + j : Nat) : Int) = some y → y = nth w j
  | [], i => by simp [okFrom]
  | x :: w, i => by
    rw [okFrom, Bool.and_eq_true, okFrom_iff]
    constructor
    · rintro ⟨h1, h2⟩ j hj y hy
      cases j with
      | zero =>
        simp only [Nat.add_zero] at hy
        simp only [okv, hy, decide_eq_true_eq] at h1
        exact h1
      | succ j =>
        have := h2 j (by simpa using hj) y (by rw [show i + 1 + j = i + (j + 1) by omega]; exact hy)
        rw [this]; rfl
    · intro h
      refine ⟨?_, fun j hj y hy => ?_⟩
      · cases hφ : φ i with
        | none => simp [okv, hφ]
        | some y => have := h 0 (by simp) y (by simpa using hφ); simp only [okv, hφ, decide_eq_true_eq]; exact this
      · have := h (j + 1) (by simpa using hj) y (by rw [show i + (j + 1) = i + 1 + j by omega]; exact hy)
        rw [this]; rfl
theorem agree_iff {v : List Int} {fs : List (Int × Int)} : agreeB v fs = true ↔ ∀ q ∈ fs, nth v q.1.toNat = q.2 := by
  simp [agreeB]

theorem ok_facts {n : Nat} {g f : List (Int × Int)} (hg : factsB n g = true) (hf : factsB n f = true) (hc : clashB g f = false) {w : List Int} (hw : w.length = n) :
    okFrom (phi (g ++ f)) 0 w = (agreeB w f && agreeB w g) := by
  rw [Bool.eq_iff_iff, okFrom_iff, Bool.and_eq_true, agree_iff, agree_iff]
  have hc' : ∀ q ∈ f, ∀ y, phi g q.1 = some y → y = q.2 := by
    intro q hq y hy
    rw [clashB, List.any_eq_false] at hc
    have := hc q hq
    simpa [hy] using this
  constructor
  · intro h
    have key : ∀ k v : Int, 0 ≤ k ∧ k < (n : Int) → phi (g ++ f) k = some v → nth w k.toNat = v := by
      intro k v hk hv
      have := h k.toNat (by omega) v (by rw [show ((0 + k.toNat : Nat) : Int) = k by omega]; exact hv)
      exact this.symm
    refine ⟨fun q hq => ?_, fun q hq => ?_⟩
    · refine key q.1 q.2 (facts_in hf q hq) ?_
      rw [phi_append]
      have h1 := facts_phi hf (k := q.1) (v := q.2) hq
      cases hgk : phi g q.1 with
      | none => rw [h1]; rfl
      | some y => rw [hc' q hq y hgk]; rfl
    · refine key q.1 q.2 (facts_in hg q hq) ?_
      rw [phi_append, facts_phi hg (k := q.1) (v := q.2) hq]; rfl
  · rintro ⟨h1, h2⟩ j hj y hy
    rw [phi_append] at hy
    simp only [Nat.zero_add] at hy
    cases hgk : phi g (j : Int) with
    | some z =>
      rw [hgk] at hy
      simp only [Option.some_or, Option.some.injEq] at hy
      subst hy
      have := h2 _ (phi_mem hgk)
      simpa using this.symm
    | none =>
      rw [hgk] at hy
      simp only [Option.none_or] at hy
      have := h1 _ (phi_mem hy)
      simpa using this.symm

theorem sum_ref {p t : List (List Int)} {g f : List (Int × Int)} (hg : factsB p.length g = true) (hf : factsB p.length f = true) (hc : clashB g f = false) : sumB p t (g ++ f) = refS p t f g := by
  unfold sumB sumW refS
  rw [vis_sum]
  refine sumN_congr fun x hx => ?_
  simp only [List.length_nil, List.nil_append, refT, ok_facts hg hf hc (rowN_len p.length x)]
theorem sum_ref0 {p t : List (List Int)} {g : List (Int × Int)} (hg : factsB p.length g = true) : sumB p t g = refS p t g [] := by
  have h := sum_ref (p := p) (t := t) (g := []) (f := g) rfl hg (by rw [clashB, List.any_eq_false]; intro q _; simp [phi])
  simpa using h
theorem clash_zero {p t : List (List Int)} {g f : List (Int × Int)} (hg : factsB p.length g = true) (hf : factsB p.length f = true) (hc : clashB g f = true) : refS p t f g = 0 := by
  obtain ⟨q, hq, hcl⟩ := List.any_eq_true.1 hc
  have z : ∀ n, sumN (fun _ => (0 : Int)) n = 0 := by intro n; induction n with | zero => rfl | succ n ih => simp [sumN, ih]
  unfold refS
  rw [sumN_congr (g := fun _ => 0) fun x hx => ?_, z]
  cases hgk : phi g q.1 with
  | none => simp [hgk] at hcl
  | some y =>
    simp only [hgk, Bool.not_eq_true', decide_eq_false_iff_not] at hcl
    have : ¬ (agreeB (rowN p.length x) f = true ∧ agreeB (rowN p.length x) g = true) := by
      rintro ⟨h1, h2⟩
      have e1 := agree_iff.1 h1 q hq
      have e2 := agree_iff.1 h2 _ (phi_mem hgk)
      exact hcl (e2.symm.trans e1)
    unfold refT
    rw [if_neg]
    simpa [Bool.and_eq_true] using this
theorem chance_ref {p t : List (List Int)} (h1 : netB p t = true) (f g : List (Int × Int)) : chanceR p t f g = refC p t f g := by
  unfold chanceR refC
  rw [h1, Bool.true_and]
  cases hf : factsB p.length f with
  | false => rfl
  | true =>
  cases hg : factsB p.length g with
  | false => rfl
  | true =>
  have e := sum_ref0 (p := p) (t := t) hg
  simp only [Bool.and_self, if_true, e]
  by_cases hz : refS p t g [] = 0
  · simp only [hz, if_true]
  · simp only [hz, if_false]
    cases hc : clashB g f with
    | false => simp only [Bool.false_eq_true, if_false, sum_ref hg hf hc]
    | true =>
      have b1 := (refS_bounds (Net.of h1) g []).1
      have hpos : 0 < refS p t g [] := by omega
      simp only [if_true, clash_zero hg hf hc, redu]
      have : gcdI 0 (refS p t g []) = refS p t g [] := by unfold gcdI; rw [Int.gcd_zero_left]; omega
      rw [this, Int.zero_ediv, Int.ediv_self (by omega)]

end Go.Proofs.Ytpkakapbepkfdaa
