/-
  Joint.
-/
import Derived.Test.YtpkakapbepkfdaaL1D
set_option linter.unusedVariables false
set_option linter.unusedSimpArgs false
set_option maxRecDepth 10000
namespace Go.Proofs.Ytpkakapbepkfdaa
open Go Go.Am

variable {h h' : Hp} {K : AV → Hp → Prop}

theorem netR_t {p t : List (List Int)} (h : netB p t = true) : netR p t = .tup [.agg [LLI p, LLI t, I p.length], I 0] := by simp [netR, h]
theorem netR_f {p t : List (List Int)} (h : netB p t = false) : netR p t = .tup [.agg [.nil, .nil, I 0], I 2] := by simp [netR, h]
/-- A row of values filled up to ten. -/
def ten (v : List Int) : List Int := v ++ (List.replicate 10 (0 : Int)).drop v.length
theorem ten_len {v : List Int} (h : v.length ≤ 10) : (ten v).length = 10 := by simp [ten]; omega
theorem ten_nth {v : List Int} {i : Nat} (hi : i < v.length) : nth (ten v) i = nth v i := nth_append_left _ _ _ hi
/-- A row of values: one for each variable, 0 or 1. -/
def rowOkB (p : List (List Int)) (v : List Int) : Bool := decide (v.length = p.length) && !v.any fun x => !inB x 0 1
theorem rowOkB_vals {p : List (List Int)} {v : List Int} (hp : p.length ≤ 10) (h : rowOkB p v = true) : Vals (ten v) p.length := by
  simp only [rowOkB, Bool.and_eq_true, decide_eq_true_eq, Bool.not_eq_true', List.any_eq_false] at h
  refine ⟨ten_len (by omega), fun i hi => ?_⟩
  rw [ten_nth (by omega)]
  have := h.2 _ (nth_mem (xs := v) (i := i) (by omega))
  simp only [inB, Bool.not_eq_true', Bool.not_eq_eq_eq_not, Bool.not_true, Bool.not_false, decide_eq_false_iff_not, Decidable.not_not, decide_eq_true_eq] at this
  omega
theorem z10 : [I 0, I 0, I 0, I 0, I 0, I 0, I 0, I 0, I 0, I 0] = (List.replicate 10 (0 : Int)).flatMap (e1 I) := rfl
theorem loadC_flat (v : List Int) (h : v.length = 10) (e : TypeId) : loadC (some (.array 10 e)) (some 10) (some (v.flatMap (e1 I), 0)) = some (.agg (v.flatMap (e1 I))) := by
  have : (v.flatMap (e1 I)).length = 10 := by rw [flat_len, h]
  rw [loadC_agg _ _ rfl _ _ (by omega), List.drop_zero, List.take_of_length_le (by omega)]
def jointR (p t : List (List Int)) (v : List Int) : AV := if netB p t && rowOkB p v then .tup [redu (weightB p t (ten v) p.length) (16 ^ p.length), I 0] else .tup [.agg [I 0, I 0], I 2]

theorem f18_con (p t : List (List Int)) (v : List Int) (hp : okLL p) (ht : okLL t) (hv : v.length ≤ maxLen) : Con Try.prog cfg 18 [.agg [LLI p, LLI t], LI v] (jointR p t v) := by
  have kn := fun h h' K => k46 (h := h) (h' := h') (K := K) p t hp ht
  have hsf : ∀ h : Hp, sealA h (.fn 48 []) = some (.fn 48 [], h) := fun _ => rfl
  have kk := fun h h' K => k47' (h := h) (h' := h') (K := K) v hv
  have n20 : ¬ (2 : Int) = 0 := by decide
  refine Con_intro Try.func18 rfl ok18 (Nat.le_of_ble_eq_true rfl) rfl ?_
  simp only [Try.f18, Option.getD_some, initSt2]
  cases h1 : netB p t with
  | false =>
    have : jointR p t v = .tup [.agg [I 0, I 0], I 2] := by simp [jointR, h1]
    simp (disch := first | (simp only [go_sem, Bool.and_self, eq_self]; done) | omega | (simp only [List.length_cons, List.length_nil]; omega)) only [go_sem, ↓reduceIte, Nat.reduceEqDiff, Nat.reduceAdd, Nat.reduceMul, Nat.reduceSub, Int.reduceToNat, Nat.reduceBEq, List.size_toArray, List.length_cons, List.length_nil, Bool.false_and, Bool.true_and, Bool.or_false, Bool.false_or, Bool.and_false, Bool.and_true, kn, netR_f h1, n20, this]
  | true =>
  have N := Net.of h1
  have hn1 := N.n1
  by_cases h2 : (v.length : Int) = p.length
  case neg =>
    have : jointR p t v = .tup [.agg [I 0, I 0], I 2] := by simp [jointR, h1, rowOkB, show ¬ v.length = p.length by omega]
    simp (disch := first | (simp only [go_sem, Bool.and_self, eq_self]; done) | omega | (simp only [List.length_cons, List.length_nil]; omega)) only [go_sem, ↓reduceIte, Nat.reduceEqDiff, Nat.reduceAdd, Nat.reduceMul, Nat.reduceSub, Int.reduceToNat, Nat.reduceBEq, List.size_toArray, List.length_cons, List.length_nil, Bool.false_and, Bool.true_and, Bool.or_false, Bool.false_or, Bool.and_false, Bool.and_true, kn, netR_t h1, h2, this]
  cases h3 : v.any (fun x => !inB x 0 1) with
  | true =>
    have : jointR p t v = .tup [.agg [I 0, I 0], I 2] := by simp [jointR, h1, rowOkB, h3]
    simp (disch := first | (simp only [go_sem, Bool.and_self, eq_self]; done) | omega | (simp only [List.length_cons, List.length_nil]; omega)) only [go_sem, ↓reduceIte, Nat.reduceEqDiff, Nat.reduceAdd, Nat.reduceMul, Nat.reduceSub, Int.reduceToNat, Nat.reduceBEq, List.size_toArray, List.length_cons, List.length_nil, Bool.false_and, Bool.true_and, Bool.or_false, Bool.false_or, Bool.and_false, Bool.and_true, kn, netR_t h1, h2, kk, hsf, h3, this]
  | false =>
  have h4 : rowOkB p v = true := by simp only [rowOkB, h3, decide_eq_true (show v.length = p.length by omega), Bool.not_false, Bool.and_self]
  have hvals := rowOkB_vals hn1.2 h4
  have : jointR p t v = .tup [redu (weightB p t (ten v) p.length) (16 ^ p.length), I 0] := by simp only [jointR, h1, h4, Bool.and_self, if_true]
  have kw := fun h h' K => k51 (h := h) (h' := h') (K := K) p t N (ten v) hvals
  have kh := fun h h' K => k52 (h := h) (h' := h') (K := K) p t p.length hn1.2
  obtain ⟨w1, w2⟩ := weight_bounds N (ten v) (Nat.le_refl _)
  have w3 := pow16_le (Nat.le_refl p.length) hn1.2
  have kr := fun h h' K => k50 (h := h) (h' := h') (K := K) (weightB p t (ten v) p.length) (16 ^ p.length) ⟨w1, by omega⟩ ⟨pow16_pos _, by omega⟩
  have hl10 : v.length ≤ 10 := by omega
  have lf := loadC_flat (ten v) (ten_len hl10)
  have hal := fun h => allocB_flat (h := h) (List.replicate 10 (0 : Int))
  have hr10 : (List.replicate 10 (0 : Int)).length = 10 := rfl
  have et : v ++ (List.replicate 10 (0 : Int)).drop v.length = ten v := rfl
  simp (disch := first | (simp only [go_sem, Bool.and_self, eq_self]; done) | omega | (simp only [List.length_cons, List.length_nil]; omega)) only [go_sem, ↓reduceIte, Nat.reduceEqDiff, Nat.reduceAdd, Nat.reduceMul, Nat.reduceSub, Int.reduceToNat, Nat.reduceBEq, List.size_toArray, List.length_cons, List.length_nil, Bool.false_and, Bool.true_and, Bool.or_false, Bool.false_or, Bool.and_false, Bool.and_true, kn, netR_t h1, h2, kk, hsf, h3, z10, hl10, kw, kh, kr, lf, et, hal, hr10, this]

end Go.Proofs.Ytpkakapbepkfdaa
