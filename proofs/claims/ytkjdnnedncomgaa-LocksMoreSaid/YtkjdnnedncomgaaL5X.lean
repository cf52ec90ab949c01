/-
  Sets of pairs of a key and a lock, as bits of a number.
-/
import Derived.Test.YtkjdnnedncomgaaL5D
set_option linter.unusedVariables false
set_option linter.unusedSimpArgs false
set_option maxRecDepth 10000
namespace Go.Proofs.Ytkjdnnedncomgaa
open Go Go.Am

/-- The pairs that a number stands for. -/
def bits (X : Nat) (p : Nat → Nat → Bool) : Prop := ∀ k j, j < 6 → X.testBit (k * 6 + j) = p k j
theorem bits_ext {X Y : Nat} {p : Nat → Nat → Bool} (hX : bits X p) (hY : bits Y p) : X = Y := by
  refine Nat.eq_of_testBit_eq fun e => ?_
  have := hX (e / 6) (e % 6) (Nat.mod_lt _ (by decide))
  have h2 := hY (e / 6) (e % 6) (Nat.mod_lt _ (by decide))
  rw [show e / 6 * 6 + e % 6 = e by omega] at this h2
  rw [this, h2]
theorem bits_congr {X : Nat} {p q : Nat → Nat → Bool} (hX : bits X p) (h : ∀ k j, j < 6 → p k j = q k j) : bits X q := fun k j hj => (hX k j hj).trans (h k j hj)
theorem bits_zero : bits 0 fun _ _ => false := fun k j _ => Nat.zero_testBit _
theorem bits_or {X : Nat} {p : Nat → Nat → Bool} (hX : bits X p) {k0 j0 : Nat} (h0 : j0 < 6) : bits (X ||| 2 ^ (k0 * 6 + j0)) fun k j => p k j || (decide (k = k0) && decide (j = j0)) := by
  intro k j hj
  rw [Nat.testBit_or, hX k j hj, Nat.testBit_two_pow]
  congr 1
  rw [← Bool.decide_and, decide_eq_decide]
  omega
theorem bits_lt {X : Nat} {p : Nat → Nat → Bool} (hX : bits X p) (h : ∀ k j, j < 6 → p k j = true → k < 6) : X < 2 ^ 36 := by
  refine Nat.lt_pow_two_of_testBit (n := 36) _ fun i hi => ?_
  have := hX (i / 6) (i % 6) (Nat.mod_lt _ (by decide))
  rw [show i / 6 * 6 + i % 6 = i by omega] at this
  rw [this]
  cases hp : p (i / 6) (i % 6) with
  | false => rfl
  | true => have := h _ _ (Nat.mod_lt _ (by decide)) hp; omega

/-- The number of a set. -/
def maskE (p : Nat → Nat → Bool) : Nat → Nat
  | 0 => 0
  | e + 1 => if p (e / 6) (e % 6) then maskE p e ||| 2 ^ e else maskE p e
def maskB (p : Nat → Nat → Bool) : Nat := maskE p 36
theorem maskE_bit (p : Nat → Nat → Bool) (i : Nat) : ∀ e, (maskE p e).testBit i = (decide (i < e) && p (i / 6) (i % 6)) := by
  intro e
  induction e with
  | zero => simp [maskE]
  | succ e ih =>
    rw [maskE]
    by_cases h : p (e / 6) (e % 6) = true
    · rw [if_pos h, Nat.testBit_or, ih, Nat.testBit_two_pow]
      by_cases h1 : i = e
      · subst h1; simp [h]
      · rcases Nat.lt_or_ge i e with h2 | h2
        · simp [h2, show i < e + 1 by omega, show ¬ e = i by omega]
        · simp [show ¬ i < e by omega, show ¬ i < e + 1 by omega, show ¬ e = i by omega]
    · rw [if_neg h, ih]
      by_cases h1 : i = e
      · subst h1; simp [h]
      · rcases Nat.lt_or_ge i e with h2 | h2
        · simp [h2, show i < e + 1 by omega]
        · simp [show ¬ i < e by omega, show ¬ i < e + 1 by omega]
theorem bits_mask (p : Nat → Nat → Bool) : bits (maskB p) fun k j => decide (k < 6) && p k j := by
  intro k j hj
  rw [maskB, maskE_bit, show (k * 6 + j) / 6 = k by omega, show (k * 6 + j) % 6 = j by omega]
  congr 1
  rw [decide_eq_decide]; omega
theorem bits_maskB {p : Nat → Nat → Bool} (h : ∀ k j, p k j = true → k < 6) : bits (maskB p) p := by
  refine bits_congr (bits_mask p) fun k j hj => ?_
  cases hp : p k j with
  | false => simp
  | true => simp [h k j hp]

/-- A part of. -/
def Sub (s t : Nat) : Prop := ∀ i, s.testBit i = true → t.testBit i = true
theorem Sub.refl (s : Nat) : Sub s s := fun _ h => h
theorem Sub.trans {s t u : Nat} (h : Sub s t) (k : Sub t u) : Sub s u := fun i hi => k i (h i hi)
theorem Sub.antisymm {s t : Nat} (h : Sub s t) (k : Sub t s) : s = t := by
  refine Nat.eq_of_testBit_eq fun i => ?_
  rw [Bool.eq_iff_iff]; exact ⟨h i, k i⟩
theorem diffN_zero {s t : Nat} : diffN s t = 0 ↔ Sub s t := by
  constructor
  · intro h i hi
    have := diffN_bit s t i
    rw [h, Nat.zero_testBit, hi] at this
    simpa using this.symm
  · intro h
    refine Nat.eq_of_testBit_eq fun i => ?_
    rw [diffN_bit, Nat.zero_testBit]
    cases hs : s.testBit i with
    | false => rfl
    | true => rw [h i hs]; rfl
instance (s t : Nat) : Decidable (Sub s t) := decidable_of_iff (diffN s t = 0) diffN_zero

/-! ### One chamber -/
/-- One chamber, as cuts. -/
def col (a : List (List Int)) (x : List Int) : List (List Int) := (List.range a.length).map fun i => [nth x i]
theorem col_len (a : List (List Int)) (x : List Int) : (col a x).length = a.length := by simp [col]
theorem col_nth {a : List (List Int)} {x : List Int} {i : Nat} (hi : i < a.length) : nth (col a x) i = [nth x i] := nth_map_range _ _ _ hi
theorem col_at {a : List (List Int)} {x : List Int} {i : Nat} (hi : i < a.length) : at2 (col a x) i 0 = nth x i := by unfold at2; rw [col_nth hi]; rfl

structure Pl (a : List (List Int)) : Prop where
  keys : 1 ≤ a.length ∧ a.length ≤ 6
  locks : 1 ≤ (nth a 0).length ∧ (nth a 0).length ≤ 6
  row : ∀ i, i < a.length → (nth a i).length = (nth a 0).length
  bit : ∀ i j, i < a.length → j < (nth a 0).length → at2 a i j = 0 ∨ at2 a i j = 1
theorem Pl.of {a : List (List Int)} (h1 : isPlanB a = true) : Pl a := by
  simp only [isPlanB, Bool.and_eq_true, decide_eq_true_eq] at h1
  obtain ⟨⟨k1, k2⟩, k3⟩ := h1
  refine ⟨k1, k2, fun i hi => ?_, fun i j hi hj => ?_⟩
  · have := all_nth k3 hi
    simp only [Bool.and_eq_true, decide_eq_true_eq] at this
    exact this.1
  · have := all_nth k3 hi
    simp only [Bool.and_eq_true, decide_eq_true_eq] at this
    have := all_nth this.2 (i := j) (by omega)
    simp only [decide_eq_true_eq] at this
    show nth (nth a i) j = 0 ∨ nth (nth a i) j = 1
    omega
theorem Pl.okA {a : List (List Int)} (f : Pl a) : okLL a := by
  refine ⟨by have := f.keys; omega, fun r hr => ?_⟩
  obtain ⟨i, hi, rfl⟩ := List.getElem_of_mem hr
  have := f.row i hi
  rw [nth_getElem hi] at this
  have := f.locks
  omega
/-- Depths of the first keys. -/
def Dep (x : List Int) (n : Nat) (d : Int) : Prop := ∀ i, i < n → 1 ≤ nth x i ∧ nth x i ≤ d
theorem Pl.fit {a : List (List Int)} (f : Pl a) {x : List Int} {d : Int} (hd : 1 ≤ d ∧ d ≤ 4) (hx : Dep x a.length d) : Fit a (col a x) d := by
  have hk := f.keys
  have h0 : (nth (col a x) 0).length = 1 := by rw [col_nth (by omega)]; rfl
  refine ⟨f.keys, f.locks, f.row, f.bit, hd, col_len _ _, by omega, fun i hi => ?_, fun i c hi hc => ?_⟩
  · rw [h0, col_nth hi]; rfl
  · rw [h0] at hc
    rw [show c = 0 by omega, col_at hi]
    exact hx i hi

/-- Key k is kept from lock j: its depth is not among the pins. -/
def barB (a : List (List Int)) (x : List Int) (k j : Nat) : Bool := !pinB a (col a x) j 0 (nth x k)
def blkP (a : List (List Int)) (x : List Int) (k j : Nat) : Bool := decide (k < a.length) && decide (j < (nth a 0).length) && barB a x k j
/-- All pairs that one chamber keeps apart. -/
def blk (a : List (List Int)) (x : List Int) : Nat := maskB (blkP a x)
def badP (a : List (List Int)) (k j : Nat) : Bool := decide (k < a.length) && decide (j < (nth a 0).length) && decide (at2 a k j = 0) && (List.range a.length).any fun o => decide (at2 a o j = 1)
/-- The pairs that must be kept apart. -/
def badM (a : List (List Int)) : Nat := maskB (badP a)
def goalP (a : List (List Int)) (k j : Nat) : Bool := decide (k < a.length) && decide (j < (nth a 0).length) && decide (at2 a k j = 0)
def goalM (a : List (List Int)) : Nat := maskB (goalP a)

section
variable {a : List (List Int)} (f : Pl a)
include f
theorem blk_bits (x : List Int) : bits (blk a x) (blkP a x) := bits_maskB fun k j h => by
  have := f.keys
  simp only [blkP, Bool.and_eq_true, decide_eq_true_eq] at h; omega
theorem bad_bits : bits (badM a) (badP a) := bits_maskB fun k j h => by
  have := f.keys
  simp only [badP, Bool.and_eq_true, decide_eq_true_eq] at h; omega
theorem goal_bits : bits (goalM a) (goalP a) := bits_maskB fun k j h => by
  have := f.keys
  simp only [goalP, Bool.and_eq_true, decide_eq_true_eq] at h; omega
theorem blk_lt (x : List Int) : blk a x < 2 ^ 36 := bits_lt (blk_bits f x) fun k j _ h => by
  have := f.keys
  simp only [blkP, Bool.and_eq_true, decide_eq_true_eq] at h; omega
theorem bad_lt : badM a < 2 ^ 36 := bits_lt (bad_bits f) fun k j _ h => by
  have := f.keys
  simp only [badP, Bool.and_eq_true, decide_eq_true_eq] at h; omega
theorem goal_lt : goalM a < 2 ^ 36 := bits_lt (goal_bits f) fun k j _ h => by
  have := f.keys
  simp only [goalP, Bool.and_eq_true, decide_eq_true_eq] at h; omega
end
/-- Only the keys' own depths count. -/
theorem blk_congr {a : List (List Int)} {x y : List Int} (h : ∀ i, i < a.length → nth x i = nth y i) : blk a x = blk a y := by
  have hc : col a x = col a y := by
    unfold col
    refine List.map_congr_left fun i hi => ?_
    rw [h i (List.mem_range.1 hi)]
  have : blkP a x = blkP a y := by
    funext k j
    unfold blkP barB
    by_cases hk : k < a.length
    · rw [hc, h k hk]
    · rw [decide_eq_false hk]; rfl
  rw [blk, blk, this]
end Go.Proofs.Ytkjdnnedncomgaa
