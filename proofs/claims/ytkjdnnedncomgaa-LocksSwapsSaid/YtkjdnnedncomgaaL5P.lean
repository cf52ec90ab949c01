/-
  Two depths of a chamber, or two chambers, exchanged in all keys: the plain law.
-/
import Derived.Test.YtkjdnnedncomgaaL5O
set_option linter.unusedVariables false
set_option linter.unusedSimpArgs false
set_option maxRecDepth 10000
namespace Go.Proofs.Ytkjdnnedncomgaa
open Go Go.Am

/-- Two numbers exchanged. -/
def sw {α : Type} [DecidableEq α] (u v e : α) : α := if e = u then v else if e = v then u else e
theorem sw_sw {α : Type} [DecidableEq α] (u v e : α) : sw u v (sw u v e) = e := by
  unfold sw
  by_cases h1 : e = u <;> by_cases h2 : e = v <;> by_cases h3 : v = u <;> simp_all
theorem sw_inj {α : Type} [DecidableEq α] {u v e f : α} (h : sw u v e = sw u v f) : e = f := by rw [← sw_sw u v e, h, sw_sw]

theorem prodN_upd (f : Nat → Int) (u : Nat) (b : Int) : ∀ n, u < n → prodN (fun i => if i = u then b else f i) n * f u = prodN f n * b := by
  intro n
  induction n with
  | zero => intro h; omega
  | succ n ih =>
    intro h
    simp only [prodN]
    rcases Nat.lt_or_ge u n with h1 | h1
    · rw [if_neg (by omega), Int.mul_right_comm, ih h1, Int.mul_right_comm]
    · have : u = n := by omega
      subst this
      rw [if_pos rfl, prodN_congr (g := f) (fun i hi => if_neg (by omega)), Int.mul_right_comm]
theorem sumN_upd (f : Nat → Int) (u : Nat) (b : Int) : ∀ n, u < n → sumN (fun i => if i = u then b else f i) n + f u = sumN f n + b := by
  intro n
  induction n with
  | zero => intro h; omega
  | succ n ih =>
    intro h
    simp only [sumN]
    rcases Nat.lt_or_ge u n with h1 | h1
    · rw [if_neg (by omega)]; have := ih h1; omega
    · have : u = n := by omega
      subst this
      rw [if_pos rfl, sumN_congr (g := f) (fun i hi => if_neg (by omega))]; omega
theorem prodN_sw (f : Nat → Int) (u v : Nat) : ∀ n, u < n → v < n → prodN (fun i => f (sw u v i)) n = prodN f n := by
  intro n
  induction n with
  | zero => intro h; omega
  | succ n ih =>
    intro hu hv
    rcases Nat.lt_or_ge u n with h1 | h1
    · rcases Nat.lt_or_ge v n with h2 | h2
      · simp only [prodN, ih h1 h2]
        rw [show sw u v n = n from by unfold sw; rw [if_neg (by omega), if_neg (by omega)]]
      · have : v = n := by omega
        subst this
        simp only [prodN]
        rw [show sw u v v = u from by unfold sw; by_cases h : v = u <;> simp [h]]
        rw [prodN_congr (g := fun i => if i = u then f v else f i) (fun i hi => by unfold sw; by_cases h : i = u <;> simp [h]; rw [if_neg (by omega)])]
        exact prodN_upd f u (f v) v h1
    · have hun : u = n := by omega
      subst hun
      rcases Nat.lt_or_ge v u with h2 | h2
      · simp only [prodN]
        rw [show sw u v u = v from by simp [sw]]
        rw [prodN_congr (g := fun i => if i = v then f u else f i) (fun i hi => by unfold sw; rw [if_neg (by omega)]; by_cases h : i = v <;> simp [h])]
        exact prodN_upd f v (f u) u h2
      · have : v = u := by omega
        subst this
        refine prodN_congr fun i hi => ?_
        rw [show sw v v i = i from by unfold sw; by_cases h : i = v <;> simp [h]]
theorem sumN_sw (f : Nat → Int) (u v : Nat) : ∀ n, u < n → v < n → sumN (fun i => f (sw u v i)) n = sumN f n := by
  intro n
  induction n with
  | zero => intro h; omega
  | succ n ih =>
    intro hu hv
    rcases Nat.lt_or_ge u n with h1 | h1
    · rcases Nat.lt_or_ge v n with h2 | h2
      · simp only [sumN, ih h1 h2]
        rw [show sw u v n = n from by unfold sw; rw [if_neg (by omega), if_neg (by omega)]]
      · have : v = n := by omega
        subst this
        simp only [sumN]
        rw [show sw u v v = u from by unfold sw; by_cases h : v = u <;> simp [h]]
        rw [sumN_congr (g := fun i => if i = u then f v else f i) (fun i hi => by unfold sw; by_cases h : i = u <;> simp [h]; rw [if_neg (by omega)])]
        exact sumN_upd f u (f v) v h1
    · have hun : u = n := by omega
      subst hun
      rcases Nat.lt_or_ge v u with h2 | h2
      · simp only [sumN]
        rw [show sw u v u = v from by simp [sw]]
        rw [sumN_congr (g := fun i => if i = v then f u else f i) (fun i hi => by unfold sw; rw [if_neg (by omega)]; by_cases h : i = v <;> simp [h])]
        exact sumN_upd f v (f u) u h2
      · have : v = u := by omega
        subst this
        refine sumN_congr fun i hi => ?_
        rw [show sw v v i = i from by unfold sw; by_cases h : i = v <;> simp [h]]

/-- A key after the exchange. -/
def sw1 (u : Nat) (x y : Int) (r : List Int) : List Int := if nth r u = x then r.set u y else if nth r u = y then r.set u x else r
def swRow (u v : Nat) (x y : Int) (r : List Int) : List Int := ((sw1 u x y r).set u (nth (sw1 u x y r) v)).set v (nth (sw1 u x y r) u)
theorem sw1_len (u : Nat) (x y : Int) (r : List Int) : (sw1 u x y r).length = r.length := by unfold sw1; split <;> (try split) <;> simp
theorem swRow_len (u v : Nat) (x y : Int) (r : List Int) : (swRow u v x y r).length = r.length := by simp [swRow, sw1_len]
theorem sw1_nth {u : Nat} {x y : Int} {r : List Int} (hu : u < r.length) (c : Nat) : nth (sw1 u x y r) c = if c = u then sw x y (nth r c) else nth r c := by
  unfold sw1 sw
  by_cases hc : c = u
  · subst hc
    split
    · rw [nth_set _ _ _ _ hu, if_pos rfl]
    · split
      · rw [nth_set _ _ _ _ hu, if_pos rfl]
      · rw [if_pos rfl]
  · have hc' : ¬ u = c := fun h => hc h.symm
    split
    · rw [nth_set _ _ _ _ hu]; simp [hc, hc']
    · split
      · rw [nth_set _ _ _ _ hu]; simp [hc, hc']
      · simp [hc]
theorem swRow_nth {u v : Nat} {x y : Int} {r : List Int} (hu : u < r.length) (hv : v < r.length) (c : Nat) : nth (swRow u v x y r) c = if sw u v c = u then sw x y (nth r (sw u v c)) else nth r (sw u v c) := by
  have hl := sw1_len u x y r
  unfold swRow
  rw [nth_set _ _ _ _ (by rw [List.length_set, hl]; exact hv), nth_set _ _ _ _ (by rw [hl]; exact hu), sw1_nth hu, sw1_nth hu, sw1_nth hu]
  unfold sw
  by_cases h1 : v = c
  · subst h1
    by_cases h2 : v = u
    · subst h2; simp
    · simp [h2]
  · by_cases h2 : u = c
    · subst h2
      simp [h1]
    · have h1' : ¬ c = v := fun h => h1 h.symm
      have h2' : ¬ c = u := fun h => h2 h.symm
      simp [h1, h2, h1', h2']

def swAll (u v : Nat) (x y : Int) (p : List (List Int)) : List (List Int) := (List.range p.length).map fun i => swRow u v x y (nth p i)
theorem swAll_len (u v : Nat) (x y : Int) (p : List (List Int)) : (swAll u v x y p).length = p.length := by simp [swAll]
theorem swAll_nth {u v : Nat} {x y : Int} {p : List (List Int)} {i : Nat} (hi : i < p.length) : nth (swAll u v x y p) i = swRow u v x y (nth p i) := nth_map_range _ _ _ hi

section
variable {a p : List (List Int)} {d : Int} (f : Fit a p d) {u v : Nat} {x y : Int} (hu : u < (nth p 0).length) (hv : v < (nth p 0).length) (hx : 1 ≤ x ∧ x ≤ d) (hy : 1 ≤ y ∧ y ≤ d)
set_option linter.unusedSectionVars false
include f hu hv hx hy

theorem swFit : Fit a (swAll u v x y p) d := by
  have hs := f.same
  have hk := f.keys
  have h0 : (nth (swAll u v x y p) 0).length = (nth p 0).length := by rw [swAll_nth (by omega), swRow_len]
  refine ⟨f.keys, f.locks, f.row, f.bit, f.depth, by rw [swAll_len, hs], by rw [h0]; exact f.cham, fun i hi => ?_, fun i c hi hc => ?_⟩
  · rw [h0, swAll_nth (by omega), swRow_len, f.crow i hi]
  · rw [h0] at hc
    have hcr := f.crow i hi
    show 1 ≤ nth (nth (swAll u v x y p) i) c ∧ nth (nth (swAll u v x y p) i) c ≤ d
    rw [swAll_nth (by omega), swRow_nth (by omega) (by omega)]
    have hsw : sw u v c < (nth p 0).length := by unfold sw; split <;> (try split) <;> omega
    have := f.cut i (sw u v c) hi hsw
    unfold at2 at this
    have hxy : ∀ e : Int, 1 ≤ e ∧ e ≤ d → 1 ≤ sw x y e ∧ sw x y e ≤ d := by
      intro e he; unfold sw; split <;> (try split) <;> omega
    split
    · exact hxy _ this
    · exact this

theorem swPin (lock c : Nat) (hc : c < (nth p 0).length) (e : Int) : pinB a (swAll u v x y p) lock c e = pinB a p lock (sw u v c) (if sw u v c = u then sw x y e else e) := by
  have hs := f.same
  rw [Bool.eq_iff_iff]
  simp only [pinB, List.any_eq_true, List.mem_range, Bool.and_eq_true, decide_eq_true_eq]
  have key : ∀ i, i < a.length → (at2 (swAll u v x y p) i c = e ↔ at2 p i (sw u v c) = (if sw u v c = u then sw x y e else e)) := by
    intro i hi
    have hcr := f.crow i hi
    show nth (nth (swAll u v x y p) i) c = e ↔ _
    rw [swAll_nth (by omega), swRow_nth (by omega) (by omega)]
    by_cases h : sw u v c = u
    · rw [if_pos h, if_pos h]
      constructor
      · intro h2; rw [← h2, sw_sw]
      · intro h2; show sw x y (at2 p i (sw u v c)) = e; rw [h2, sw_sw]
    · rw [if_neg h, if_neg h]
  constructor
  · rintro ⟨i, hi, h1, h2⟩; exact ⟨i, hi, h1, (key i hi).1 h2⟩
  · rintro ⟨i, hi, h1, h2⟩; exact ⟨i, hi, h1, (key i hi).2 h2⟩

theorem swOpens (lock i : Nat) (hi : i < a.length) : opensB a (swAll u v x y p) (nth (swAll u v x y p) i) lock = opensB a p (nth p i) lock := by
  have hs := f.same
  have hcr := f.crow i hi
  rw [Bool.eq_iff_iff]
  simp only [opensB, List.all_eq_true, List.mem_range]
  rw [swAll_nth (by omega), swRow_len, hcr]
  have hsw : ∀ c, c < (nth p 0).length → sw u v c < (nth p 0).length := by intro c hc; unfold sw; split <;> (try split) <;> omega
  have key : ∀ c, c < (nth p 0).length → pinB a (swAll u v x y p) lock c (nth (swRow u v x y (nth p i)) c) = pinB a p lock (sw u v c) (nth (nth p i) (sw u v c)) := by
    intro c hc
    rw [swPin f hu hv hx hy lock c hc, swRow_nth (by omega) (by omega)]
    by_cases h : sw u v c = u
    · rw [if_pos h, if_pos h, sw_sw]
    · rw [if_neg h, if_neg h]
  constructor
  · intro h c hc
    have := h (sw u v c) (hsw c hc)
    rw [key _ (hsw c hc), sw_sw] at this
    exact this
  · intro h c hc
    rw [key c hc]
    exact h _ (hsw c hc)

theorem swWrong : wrongL a (swAll u v x y p) a.length = wrongL a p a.length := by
  unfold wrongL
  rw [List.flatMap_def, List.flatMap_def]
  congr 1
  refine List.map_congr_left fun i hi => ?_
  have hi := List.mem_range.1 hi
  unfold wrongRow
  rw [List.flatMap_def, List.flatMap_def]
  congr 1
  refine List.map_congr_left fun j _ => ?_
  rw [swOpens f hu hv hx hy j i hi]

theorem swStrangers (lock : Nat) : strangersB a (swAll u v x y p) d lock = strangersB a p d lock := by
  have hs := f.same
  have hk := f.keys
  have hd := f.depth
  have h0 : (nth (swAll u v x y p) 0).length = (nth p 0).length := by rw [swAll_nth (by omega), swRow_len]
  unfold strangersB
  rw [h0, ← prodN_sw (fun c => cntB a p lock c d.toNat) u v _ hu hv]
  refine prodN_congr fun c hc => ?_
  unfold cntB
  have e1 : ∀ k, k < d.toNat → (if pinB a (swAll u v x y p) lock c ((k : Int) + 1) then (1 : Int) else 0) = (fun k : Nat => if pinB a p lock (sw u v c) ((k : Int) + 1) then (1 : Int) else 0) (if sw u v c = u then sw (x - 1).toNat (y - 1).toNat k else k) := by
    intro k hk2
    rw [swPin f hu hv hx hy lock c hc]
    by_cases h : sw u v c = u
    · simp only [if_pos h]
      have : sw x y ((k : Int) + 1) = ((sw (x - 1).toNat (y - 1).toNat k : Nat) : Int) + 1 := by
        unfold sw
        by_cases h1 : k = (x - 1).toNat
        · rw [if_pos h1, if_pos (show (k : Int) + 1 = x by omega)]; omega
        · rw [if_neg h1, if_neg (show ¬ (k : Int) + 1 = x by omega)]
          by_cases h2 : k = (y - 1).toNat
          · rw [if_pos h2, if_pos (show (k : Int) + 1 = y by omega)]; omega
          · rw [if_neg h2, if_neg (show ¬ (k : Int) + 1 = y by omega)]
      rw [this]
    · simp only [if_neg h]
  rw [sumN_congr e1]
  by_cases h : sw u v c = u
  · simp only [if_pos h]
    rw [h]
    exact sumN_sw (fun k : Nat => if pinB a p lock u ((k : Int) + 1) then (1 : Int) else 0) (x - 1).toNat (y - 1).toNat d.toNat (by omega) (by omega)
  · simp only [if_neg h]
end
end Go.Proofs.Ytkjdnnedncomgaa
