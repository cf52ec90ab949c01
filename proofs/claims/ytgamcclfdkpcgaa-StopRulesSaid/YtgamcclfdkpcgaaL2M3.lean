/-
  isChain; the reference's Chain.
  Rules as lists: has, the reference's Rule, Rule.
  The reference's Values.
  The reference's Sound.
  The reference's Best.
  The chain laws' configuration: what best and awake answer is known.
  Lists compared; valid fractions; Best, Check.
-/
import Derived.Test.YtgamcclfdkpcgaaL2M2
import Derived.Test.YtgamcclfdkpcgaaL2M1
set_option linter.unusedVariables false
set_option linter.unusedSimpArgs false
set_option maxRecDepth 10000
namespace Go.Proofs.Ytgamcclfdkpcgaa
open Go Go.Am

variable {h h' : Hp} {K : AV → Hp → Prop}

def rowB (r : List Int) : Bool := (List.range r.length).all (fun j => inB (nth r j) 0 4) && decide (sumN (fun j => nth r j) r.length ≤ 4)
def stB (nx : List (List Int)) (pay cost : List Int) (i : Nat) : Bool := decide ((nth nx i).length = nx.length) && (inB (nth pay i) 0 1000 && (inB (nth cost i) 0 100 && rowB (nth nx i)))
def chB (nx : List (List Int)) (pay cost : List Int) : Bool := inB nx.length 1 6 && (decide (pay.length = nx.length) && (decide (cost.length = nx.length) && (List.range nx.length).all (stB nx pay cost)))
theorem allR {n : Nat} {p : Nat → Bool} (h : ∀ i, i < n → p i = true) : (List.range n).all p = true := List.all_eq_true.2 fun x hx => h x (List.mem_range.1 hx)
theorem notR {n i : Nat} {p : Nat → Bool} (hi : i < n) (h : p i = false) : (List.range n).all p = false := List.all_eq_false.2 ⟨i, List.mem_range.2 hi, by rw [h]; decide⟩
theorem ofR {n i : Nat} {p : Nat → Bool} (h : (List.range n).all p = true) (hi : i < n) : p i = true := List.all_eq_true.1 h i (List.mem_range.2 hi)
theorem okC.of {nx : List (List Int)} {pay cost : List Int} (h : chB nx pay cost = true) : okC nx pay cost := by
  simp only [chB, Bool.and_eq_true, decide_eq_true_eq, inB] at h
  obtain ⟨⟨h1, h6⟩, hp, hc, hall⟩ := h
  have hs := fun i hi => ofR (i := i) hall hi
  simp only [stB, rowB, Bool.and_eq_true, decide_eq_true_eq, inB] at hs
  have hrow : ∀ i, i < nx.length → (nth nx i).length = nx.length := fun i hi => (hs i hi).1
  refine ⟨by omega, by omega, hrow, hp, hc, fun i j hi hj => ?_, fun i hi => ?_, fun i hi => (hs i hi).2.1, fun i hi => (hs i hi).2.2.1⟩
  · have := ofR (i := j) (hs i hi).2.2.2.1 (by rw [hrow i hi]; exact hj)
    simp only [Bool.and_eq_true, decide_eq_true_eq] at this
    exact this.1
  · have := (hs i hi).2.2.2.2
    rw [hrow i hi] at this; exact this
theorem st_no {nx : List (List Int)} {pay cost : List Int} {i : Nat} (hi : i < nx.length) (h : stB nx pay cost i = false) : chB nx pay cost = false := by
  rw [chB, notR hi h, Bool.and_false, Bool.and_false, Bool.and_false]
theorem sum4 {r : List Int} {j : Nat} (h : ∀ k, k < j → inB (nth r k) 0 4 = true) : 0 ≤ sumN (fun k => nth r k) j ∧ sumN (fun k => nth r k) j ≤ 4 * j := by
  have := sumN_bounds (f := fun k => nth r k) (lo := 0) (hi := 4) (n := j) fun k hk => by
    have := h k hk
    simp only [inB, Bool.and_eq_true, decide_eq_true_eq] at this
    omega
  omega

theorem f48_nil (p c : List Int) : Con Try.prog cfg 48 [.agg [.nil, LI p, LI c]] (.bool false) := by
  have hal : ∀ g : Hp, allocB g (some (.agg [.nil, LI p, LI c])) = some (.ptr g.nx 0, g.alloc (.cells false false [.nil, LI p, LI c])) := fun g => allocB_agg _ rfl
  have hb : inB 0 1 6 = false := by decide
  have hl : ∀ h lim, lenB (some (.slice 23)) .nil h lim = some (I 0) := fun _ _ => rfl
  refine Con_intro Try.func48 rfl ok48 (Nat.le_of_ble_eq_true rfl) rfl ?_
  simp only [Try.f48, Option.getD_some, initSt1]
  simp (disch := first | (simp only [go_sem, Bool.and_self, eq_self]; done) | omega | (simp only [gl1, gl2]; omega)) only [go_sem, ↓reduceIte, Nat.reduceEqDiff, Nat.reduceAdd, Nat.reduceMul, Nat.reduceSub, Int.reduceToNat, Nat.reduceBEq, hal, hb, hl]
theorem f48_con (nx : List (List Int)) (pay cost : List Int) (hk : okN nx pay cost) : Con Try.prog cfg 48 [chA nx pay cost] (.bool (chB nx pay cost)) := by
  have ml : maxLen = 9223372036854775807 := by decide
  have hkn := hk.n
  have hkp := hk.p
  have hkc := hk.c
  have hal : ∀ g : Hp, allocB g (some (chA nx pay cost)) = some (.ptr g.nx 0, g.alloc (.cells false false [LLI nx, LI pay, LI cost])) := fun g => allocB_agg _ rfl
  obtain ⟨b, hb⟩ : ∃ b, b = chB nx pay cost := ⟨_, rfl⟩
  rw [← hb]
  cases c1 : inB nx.length 1 6 with
  | false =>
    have hr : b = false := by rw [hb, chB, c1]; rfl
    refine Con_intro Try.func48 rfl ok48 (Nat.le_of_ble_eq_true rfl) rfl ?_
    simp only [Try.f48, Option.getD_some, initSt1]
    simp (disch := first | (simp only [go_sem, Bool.and_self, eq_self]; done) | omega | (simp only [gl1, gl2]; omega)) only [go_sem, ↓reduceIte, Nat.reduceEqDiff, Nat.reduceAdd, Nat.reduceMul, Nat.reduceSub, Int.reduceToNat, Nat.reduceBEq, hal, c1, hr]
  | true =>
  by_cases c2 : pay.length = nx.length
  case neg =>
    have hr : b = false := by rw [hb, chB, decide_eq_false c2]; simp
    have c2' : ¬ (pay.length : Int) = nx.length := by omega
    refine Con_intro Try.func48 rfl ok48 (Nat.le_of_ble_eq_true rfl) rfl ?_
    simp only [Try.f48, Option.getD_some, initSt1]
    simp (disch := first | (simp only [go_sem, Bool.and_self, eq_self]; done) | omega | (simp only [gl1, gl2]; omega)) only [go_sem, ↓reduceIte, Nat.reduceEqDiff, Nat.reduceAdd, Nat.reduceMul, Nat.reduceSub, Int.reduceToNat, Nat.reduceBEq, hal, c1, c2, hr, List.drop_succ_cons]
  by_cases c3 : cost.length = nx.length
  case neg =>
    have hr : b = false := by rw [hb, chB, decide_eq_false c3]; simp
    have c3' : ¬ (cost.length : Int) = nx.length := by omega
    refine Con_intro Try.func48 rfl ok48 (Nat.le_of_ble_eq_true rfl) rfl ?_
    simp only [Try.f48, Option.getD_some, initSt1]
    simp (disch := first | (simp only [go_sem, Bool.and_self, eq_self]; done) | omega | (simp only [gl1, gl2]; omega)) only [go_sem, ↓reduceIte, Nat.reduceEqDiff, Nat.reduceAdd, Nat.reduceMul, Nat.reduceSub, Int.reduceToNat, Nat.reduceBEq, hal, c1, c2, c3, hr, eq_self, decide_true, Bool.not_true, List.drop_succ_cons]
  have c1' := c1
  simp only [inB, Bool.and_eq_true, decide_eq_true_eq] at c1'
  obtain ⟨n, hn⟩ : ∃ n, n = nx.length := ⟨_, rfl⟩
  have hno : ∀ i, i < n → stB nx pay cost i = false → b = false := fun i hi h => by rw [hb]; exact st_no (by omega) h
  have hyes : (∀ i, i < n → stB nx pay cost i = true) → b = true := fun h => by
    rw [hb, chB, c1, c2, c3, allR fun i hi => h i (by omega)]; simp
  have c1n := c1
  have c2n := c2
  have c3n := c3
  rw [← hn] at c1n c2n c3n
  refine Con_intro Try.func48 rfl ok48 (Nat.le_of_ble_eq_true rfl) rfl ?_
  simp only [Try.f48, Option.getD_some, initSt1]
  simp (disch := first | (simp only [go_sem, Bool.and_self, eq_self]; done) | omega | (simp only [gl1, gl2]; omega)) only [go_sem, ↓reduceIte, Nat.reduceEqDiff, Nat.reduceAdd, Nat.reduceMul, Nat.reduceSub, Int.reduceToNat, Nat.reduceBEq, hal, c1n, c2n, c3n, eq_self, decide_true, Bool.not_true, List.drop_succ_cons, ← hn]
  refine WP_for 32 n (fun i st h => st 1 = .ptr 0 0 ∧ st 3 = I n ∧ st 30 = LLI nx ∧ st 31 = I n ∧ h.bl 0 = some (.cells false false [LLI nx, LI pay, LI cost]) ∧ ∀ k, k < i → stB nx pay cost k = true) (by simp (disch := first | (simp only [go_sem, Bool.and_self, eq_self]; done) | omega | (simp only [gl1, gl2]; omega)) only [go_sem, ↓reduceIte, Nat.reduceEqDiff, Nat.reduceAdd, Nat.reduceMul, Nat.reduceSub, Int.reduceToNat, Nat.reduceBEq]) ⟨by simp (disch := first | (simp only [go_sem, Bool.and_self, eq_self]; done) | omega | (simp only [gl1, gl2]; omega)) only [go_sem, ↓reduceIte, Nat.reduceEqDiff, Nat.reduceAdd, Nat.reduceMul, Nat.reduceSub, Int.reduceToNat, Nat.reduceBEq], by simp (disch := first | (simp only [go_sem, Bool.and_self, eq_self]; done) | omega | (simp only [gl1, gl2]; omega)) only [go_sem, ↓reduceIte, Nat.reduceEqDiff, Nat.reduceAdd, Nat.reduceMul, Nat.reduceSub, Int.reduceToNat, Nat.reduceBEq], by simp (disch := first | (simp only [go_sem, Bool.and_self, eq_self]; done) | omega | (simp only [gl1, gl2]; omega)) only [go_sem, ↓reduceIte, Nat.reduceEqDiff, Nat.reduceAdd, Nat.reduceMul, Nat.reduceSub, Int.reduceToNat, Nat.reduceBEq], by simp (disch := first | (simp only [go_sem, Bool.and_self, eq_self]; done) | omega | (simp only [gl1, gl2]; omega)) only [go_sem, ↓reduceIte, Nat.reduceEqDiff, Nat.reduceAdd, Nat.reduceMul, Nat.reduceSub, Int.reduceToNat, Nat.reduceBEq], by simp (disch := first | (simp only [go_sem, Bool.and_self, eq_self]; done) | omega | (simp only [gl1, gl2]; omega)) only [go_sem, ↓reduceIte, Nat.reduceEqDiff, Nat.reduceAdd, Nat.reduceMul, Nat.reduceSub, Int.reduceToNat, Nat.reduceBEq], by omega⟩ ?_
  rintro i st h hi s32 ⟨s1, s3, s30, s31, b0, hall⟩
  by_cases hlt : i < n
  case neg =>
    have hr := hyes fun k hk => hall k (by omega)
    simp (disch := first | (simp only [go_sem, Bool.and_self, eq_self]; done) | omega | (simp only [gl1, gl2]; omega)) only [go_sem, ↓reduceIte, Nat.reduceEqDiff, Nat.reduceAdd, Nat.reduceMul, Nat.reduceSub, Int.reduceToNat, Nat.reduceBEq, s1, s3, s30, s31, s32, hlt, hr]
  have hi1 : i < nx.length := by omega
  have hi1' : (i : Int) < nx.length := by omega
  have hip : i < pay.length := by omega
  have hip' : (i : Int) < pay.length := by omega
  have hic : i < cost.length := by omega
  have hic' : (i : Int) < cost.length := by omega
  have hnoi := hno i hlt
  have hrl := hk.row _ (nth_mem hi1)
  obtain ⟨r, hr⟩ : ∃ r, r = nth nx i := ⟨_, rfl⟩
  have hrr : nth nx i = r := hr.symm
  rw [hrr] at hrl
  have hst : stB nx pay cost i = (decide (r.length = n) && (inB (nth pay i) 0 1000 && (inB (nth cost i) 0 100 && rowB r))) := by rw [stB, hrr, hn]
  by_cases d1 : r.length = n
  case neg =>
    have hb := hnoi (by rw [hst, decide_eq_false d1]; rfl)
    have d1' : ¬ (r.length : Int) = n := by omega
    simp (disch := first | (simp only [go_sem, Bool.and_self, eq_self]; done) | omega | (simp only [gl1, gl2]; omega)) only [go_sem, ↓reduceIte, Nat.reduceEqDiff, Nat.reduceAdd, Nat.reduceMul, Nat.reduceSub, Int.reduceToNat, Nat.reduceBEq, s1, s3, s30, s31, s32, hlt, hi1, hi1', hrr, d1, d1', hb]
  have d1' : (r.length : Int) = n := by omega
  cases d2 : inB (nth pay i) 0 1000 with
  | false =>
    have hb := hnoi (by rw [hst, d2]; simp)
    simp (disch := first | (simp only [go_sem, Bool.and_self, eq_self]; done) | omega | (simp only [gl1, gl2]; omega)) only [go_sem, ↓reduceIte, Nat.reduceEqDiff, Nat.reduceAdd, Nat.reduceMul, Nat.reduceSub, Int.reduceToNat, Nat.reduceBEq, s1, s3, s30, s31, s32, hlt, hi1, hi1', hip, hip', hrr, d1, d1', d2, b0, hb, eq_self, decide_true, Bool.not_true, List.drop_succ_cons]
  | true =>
  cases d3 : inB (nth cost i) 0 100 with
  | false =>
    have hb := hnoi (by rw [hst, d3]; simp)
    simp (disch := first | (simp only [go_sem, Bool.and_self, eq_self]; done) | omega | (simp only [gl1, gl2]; omega)) only [go_sem, ↓reduceIte, Nat.reduceEqDiff, Nat.reduceAdd, Nat.reduceMul, Nat.reduceSub, Int.reduceToNat, Nat.reduceBEq, s1, s3, s30, s31, s32, hlt, hi1, hi1', hip, hip', hic, hic', hrr, d1, d1', d2, d3, b0, hb, eq_self, decide_true, Bool.not_true, List.drop_succ_cons]
  | true =>
  have hst2 : stB nx pay cost i = rowB r := by rw [hst, decide_eq_true d1, d2, d3]; rfl
  simp (disch := first | (simp only [go_sem, Bool.and_self, eq_self]; done) | omega | (simp only [gl1, gl2]; omega)) only [go_sem, ↓reduceIte, Nat.reduceEqDiff, Nat.reduceAdd, Nat.reduceMul, Nat.reduceSub, Int.reduceToNat, Nat.reduceBEq, s1, s3, s30, s31, s32, hlt, hi1, hi1', hip, hip', hic, hic', hrr, d1, d1', d2, d3, b0, eq_self, decide_true, Bool.not_true, List.drop_succ_cons]
  refine WP_cut (fun st h => st 1 = .ptr 0 0 ∧ st 3 = I n ∧ st 30 = LLI nx ∧ st 31 = I n ∧ st 32 = I i ∧ st 6 = I (sumN (fun j => nth r j) n) ∧ h.bl 0 = some (.cells false false [LLI nx, LI pay, LI cost]) ∧ ∀ k, k < n → inB (nth r k) 0 4 = true) ?_ ?_
  · refine WP_for 61 n (fun j st h => st 1 = .ptr 0 0 ∧ st 3 = I n ∧ st 30 = LLI nx ∧ st 31 = I n ∧ st 32 = I i ∧ st 59 = LI r ∧ st 60 = I n ∧ st 6 = I (sumN (fun j => nth r j) j) ∧ h.bl 0 = some (.cells false false [LLI nx, LI pay, LI cost]) ∧ ∀ k, k < j → inB (nth r k) 0 4 = true) (by simp (disch := first | (simp only [go_sem, Bool.and_self, eq_self]; done) | omega | (simp only [gl1, gl2]; omega)) only [go_sem, ↓reduceIte, Nat.reduceEqDiff, Nat.reduceAdd, Nat.reduceMul, Nat.reduceSub, Int.reduceToNat, Nat.reduceBEq])
      ⟨by simp (disch := first | (simp only [go_sem, Bool.and_self, eq_self]; done) | omega | (simp only [gl1, gl2]; omega)) only [go_sem, ↓reduceIte, Nat.reduceEqDiff, Nat.reduceAdd, Nat.reduceMul, Nat.reduceSub, Int.reduceToNat, Nat.reduceBEq, s1], by simp (disch := first | (simp only [go_sem, Bool.and_self, eq_self]; done) | omega | (simp only [gl1, gl2]; omega)) only [go_sem, ↓reduceIte, Nat.reduceEqDiff, Nat.reduceAdd, Nat.reduceMul, Nat.reduceSub, Int.reduceToNat, Nat.reduceBEq, s3], by simp (disch := first | (simp only [go_sem, Bool.and_self, eq_self]; done) | omega | (simp only [gl1, gl2]; omega)) only [go_sem, ↓reduceIte, Nat.reduceEqDiff, Nat.reduceAdd, Nat.reduceMul, Nat.reduceSub, Int.reduceToNat, Nat.reduceBEq, s30], by simp (disch := first | (simp only [go_sem, Bool.and_self, eq_self]; done) | omega | (simp only [gl1, gl2]; omega)) only [go_sem, ↓reduceIte, Nat.reduceEqDiff, Nat.reduceAdd, Nat.reduceMul, Nat.reduceSub, Int.reduceToNat, Nat.reduceBEq, s31], by simp (disch := first | (simp only [go_sem, Bool.and_self, eq_self]; done) | omega | (simp only [gl1, gl2]; omega)) only [go_sem, ↓reduceIte, Nat.reduceEqDiff, Nat.reduceAdd, Nat.reduceMul, Nat.reduceSub, Int.reduceToNat, Nat.reduceBEq, s32], by simp (disch := first | (simp only [go_sem, Bool.and_self, eq_self]; done) | omega | (simp only [gl1, gl2]; omega)) only [go_sem, ↓reduceIte, Nat.reduceEqDiff, Nat.reduceAdd, Nat.reduceMul, Nat.reduceSub, Int.reduceToNat, Nat.reduceBEq], by simp (disch := first | (simp only [go_sem, Bool.and_self, eq_self]; done) | omega | (simp only [gl1, gl2]; omega)) only [go_sem, ↓reduceIte, Nat.reduceEqDiff, Nat.reduceAdd, Nat.reduceMul, Nat.reduceSub, Int.reduceToNat, Nat.reduceBEq, d1], by simp (disch := first | (simp only [go_sem, Bool.and_self, eq_self]; done) | omega | (simp only [gl1, gl2]; omega)) only [go_sem, ↓reduceIte, Nat.reduceEqDiff, Nat.reduceAdd, Nat.reduceMul, Nat.reduceSub, Int.reduceToNat, Nat.reduceBEq]; rfl, by simp (disch := first | (simp only [go_sem, Bool.and_self, eq_self]; done) | omega | (simp only [gl1, gl2]; omega)) only [go_sem, ↓reduceIte, Nat.reduceEqDiff, Nat.reduceAdd, Nat.reduceMul, Nat.reduceSub, Int.reduceToNat, Nat.reduceBEq, b0], by omega⟩ ?_
    rintro j st h hj s61 ⟨s1, s3, s30, s31, s32, s59, s60, s6, b0, hpj⟩
    by_cases hjn : j < n
    case neg =>
      have hje : j = n := by omega
      subst hje
      simp (disch := first | (simp only [go_sem, Bool.and_self, eq_self]; done) | omega | (simp only [gl1, gl2]; omega)) only [go_sem, ↓reduceIte, Nat.reduceEqDiff, Nat.reduceAdd, Nat.reduceMul, Nat.reduceSub, Int.reduceToNat, Nat.reduceBEq, s1, s3, s30, s31, s32, s59, s60, s61, s6, hjn]
      exact ⟨b0, hpj⟩
    have hjr : j < r.length := by omega
    have hjr' : (j : Int) < r.length := by omega
    cases d4 : inB (nth r j) 0 4 with
    | false =>
      have hb := hnoi (by rw [hst2, rowB, notR hjr (by rw [d4]), Bool.false_and])
      simp (disch := first | (simp only [go_sem, Bool.and_self, eq_self]; done) | omega | (simp only [gl1, gl2]; omega)) only [go_sem, ↓reduceIte, Nat.reduceEqDiff, Nat.reduceAdd, Nat.reduceMul, Nat.reduceSub, Int.reduceToNat, Nat.reduceBEq, s1, s3, s30, s31, s32, s59, s60, s61, s6, hjn, hjr, hjr', d4, hb]
    | true =>
      have hsb := sum4 hpj
      have d4' := d4
      simp only [inB, Bool.and_eq_true, decide_eq_true_eq] at d4'
      have hs1 : sumN (fun k => nth r k) (j + 1) = sumN (fun k => nth r k) j + nth r j := rfl
      simp (disch := first | (simp only [go_sem, Bool.and_self, eq_self]; done) | omega | (simp only [gl1, gl2]; omega)) only [go_sem, ↓reduceIte, Nat.reduceEqDiff, Nat.reduceAdd, Nat.reduceMul, Nat.reduceSub, Int.reduceToNat, Nat.reduceBEq, s1, s3, s30, s31, s32, s59, s60, s61, s6, hjn, hjr, hjr', d4]
      rw [ForK_normal]
      refine ⟨hjn, by simp (disch := first | (simp only [go_sem, Bool.and_self, eq_self]; done) | omega | (simp only [gl1, gl2]; omega)) only [go_sem, ↓reduceIte, Nat.reduceEqDiff, Nat.reduceAdd, Nat.reduceMul, Nat.reduceSub, Int.reduceToNat, Nat.reduceBEq, s61], by simp (disch := first | (simp only [go_sem, Bool.and_self, eq_self]; done) | omega | (simp only [gl1, gl2]; omega)) only [go_sem, ↓reduceIte, Nat.reduceEqDiff, Nat.reduceAdd, Nat.reduceMul, Nat.reduceSub, Int.reduceToNat, Nat.reduceBEq, s1], by simp (disch := first | (simp only [go_sem, Bool.and_self, eq_self]; done) | omega | (simp only [gl1, gl2]; omega)) only [go_sem, ↓reduceIte, Nat.reduceEqDiff, Nat.reduceAdd, Nat.reduceMul, Nat.reduceSub, Int.reduceToNat, Nat.reduceBEq, s3], by simp (disch := first | (simp only [go_sem, Bool.and_self, eq_self]; done) | omega | (simp only [gl1, gl2]; omega)) only [go_sem, ↓reduceIte, Nat.reduceEqDiff, Nat.reduceAdd, Nat.reduceMul, Nat.reduceSub, Int.reduceToNat, Nat.reduceBEq, s30], by simp (disch := first | (simp only [go_sem, Bool.and_self, eq_self]; done) | omega | (simp only [gl1, gl2]; omega)) only [go_sem, ↓reduceIte, Nat.reduceEqDiff, Nat.reduceAdd, Nat.reduceMul, Nat.reduceSub, Int.reduceToNat, Nat.reduceBEq, s31], by simp (disch := first | (simp only [go_sem, Bool.and_self, eq_self]; done) | omega | (simp only [gl1, gl2]; omega)) only [go_sem, ↓reduceIte, Nat.reduceEqDiff, Nat.reduceAdd, Nat.reduceMul, Nat.reduceSub, Int.reduceToNat, Nat.reduceBEq, s32], by simp (disch := first | (simp only [go_sem, Bool.and_self, eq_self]; done) | omega | (simp only [gl1, gl2]; omega)) only [go_sem, ↓reduceIte, Nat.reduceEqDiff, Nat.reduceAdd, Nat.reduceMul, Nat.reduceSub, Int.reduceToNat, Nat.reduceBEq, s59], by simp (disch := first | (simp only [go_sem, Bool.and_self, eq_self]; done) | omega | (simp only [gl1, gl2]; omega)) only [go_sem, ↓reduceIte, Nat.reduceEqDiff, Nat.reduceAdd, Nat.reduceMul, Nat.reduceSub, Int.reduceToNat, Nat.reduceBEq, s60], by (rw [hs1]; simp (disch := first | (simp only [go_sem, Bool.and_self, eq_self]; done) | omega | (simp only [gl1, gl2]; omega)) only [go_sem, ↓reduceIte, Nat.reduceEqDiff, Nat.reduceAdd, Nat.reduceMul, Nat.reduceSub, Int.reduceToNat, Nat.reduceBEq]), b0, fun k hk => ?_⟩
      by_cases hkj : k = j
      · subst hkj; exact d4
      · exact hpj k (by omega)
  · rintro st h ⟨s1, s3, s30, s31, s32, s6, b0, hpj⟩
    have hrb : rowB r = decide (sumN (fun j => nth r j) n ≤ 4) := by rw [rowB, d1, allR hpj, Bool.true_and]
    by_cases d5 : 4 < sumN (fun j => nth r j) n
    · have hb := hnoi (by rw [hst2, hrb]; exact decide_eq_false (by omega))
      simp (disch := first | (simp only [go_sem, Bool.and_self, eq_self]; done) | omega | (simp only [gl1, gl2]; omega)) only [go_sem, ↓reduceIte, Nat.reduceEqDiff, Nat.reduceAdd, Nat.reduceMul, Nat.reduceSub, Int.reduceToNat, Nat.reduceBEq, s1, s3, s30, s31, s32, s6, d5, hb]
    · simp (disch := first | (simp only [go_sem, Bool.and_self, eq_self]; done) | omega | (simp only [gl1, gl2]; omega)) only [go_sem, ↓reduceIte, Nat.reduceEqDiff, Nat.reduceAdd, Nat.reduceMul, Nat.reduceSub, Int.reduceToNat, Nat.reduceBEq, s1, s3, s30, s31, s32, s6, d5]
      rw [ForK_normal]
      refine ⟨hlt, by simp (disch := first | (simp only [go_sem, Bool.and_self, eq_self]; done) | omega | (simp only [gl1, gl2]; omega)) only [go_sem, ↓reduceIte, Nat.reduceEqDiff, Nat.reduceAdd, Nat.reduceMul, Nat.reduceSub, Int.reduceToNat, Nat.reduceBEq, s32], by simp (disch := first | (simp only [go_sem, Bool.and_self, eq_self]; done) | omega | (simp only [gl1, gl2]; omega)) only [go_sem, ↓reduceIte, Nat.reduceEqDiff, Nat.reduceAdd, Nat.reduceMul, Nat.reduceSub, Int.reduceToNat, Nat.reduceBEq, s1], by simp (disch := first | (simp only [go_sem, Bool.and_self, eq_self]; done) | omega | (simp only [gl1, gl2]; omega)) only [go_sem, ↓reduceIte, Nat.reduceEqDiff, Nat.reduceAdd, Nat.reduceMul, Nat.reduceSub, Int.reduceToNat, Nat.reduceBEq, s3], by simp (disch := first | (simp only [go_sem, Bool.and_self, eq_self]; done) | omega | (simp only [gl1, gl2]; omega)) only [go_sem, ↓reduceIte, Nat.reduceEqDiff, Nat.reduceAdd, Nat.reduceMul, Nat.reduceSub, Int.reduceToNat, Nat.reduceBEq, s30], by simp (disch := first | (simp only [go_sem, Bool.and_self, eq_self]; done) | omega | (simp only [gl1, gl2]; omega)) only [go_sem, ↓reduceIte, Nat.reduceEqDiff, Nat.reduceAdd, Nat.reduceMul, Nat.reduceSub, Int.reduceToNat, Nat.reduceBEq, s31], b0, fun k hk => ?_⟩
      by_cases hki : k = i
      · subst hki; rw [hst2, hrb]; exact decide_eq_true (by omega)
      · exact hall k (by omega)
end Go.Proofs.Ytgamcclfdkpcgaa

set_option linter.unusedVariables false
set_option linter.unusedSimpArgs false
set_option maxRecDepth 10000
namespace Go.Proofs.Ytgamcclfdkpcgaa
open Go Go.Am

variable {h h' : Hp} {K : AV → Hp → Prop}

def hasB (l : List Int) (v : Int) : Bool := l.any fun x => decide (x = v)
theorem hasB_take (l : List Int) (v : Int) (j : Nat) (hj : j < l.length) : hasB (l.take (j + 1)) v = (hasB (l.take j) v || decide (nth l j = v)) := by
  have e : l.take (j + 1) = l.take j ++ [nth l j] := by rw [List.take_succ_eq_append_getElem hj, nth_getElem hj]
  rw [hasB, e, List.any_append]; simp [hasB]
theorem hasB_all (l : List Int) (v : Int) {j : Nat} (hj : l.length ≤ j) : hasB (l.take j) v = hasB l v := by rw [List.take_of_length_le hj]
theorem f57_con (l : List Int) (hl : l.length ≤ maxLen) (v : Int) : Con Try.prog cfg 57 [LI l, I v] (.bool (hasB l v)) := by
  have ml : maxLen = 9223372036854775807 := by decide
  refine Con_intro Try.func57 rfl ok57 (Nat.le_of_ble_eq_true rfl) rfl ?_
  simp only [Try.f57, Option.getD_some, initSt2]
  simp (disch := first | (simp only [go_sem, Bool.and_self, eq_self]; done) | omega | (simp only [gl1, gl2]; omega)) only [go_sem, ↓reduceIte, Nat.reduceEqDiff, Nat.reduceAdd, Nat.reduceMul, Nat.reduceSub, Int.reduceToNat, Nat.reduceBEq]
  refine WP_for 5 l.length (fun j st h => st 0 = LI l ∧ st 1 = I v ∧ hasB (l.take j) v = false) (by simp (disch := first | (simp only [go_sem, Bool.and_self, eq_self]; done) | omega | (simp only [gl1, gl2]; omega)) only [go_sem, ↓reduceIte, Nat.reduceEqDiff, Nat.reduceAdd, Nat.reduceMul, Nat.reduceSub, Int.reduceToNat, Nat.reduceBEq]) ⟨by simp (disch := first | (simp only [go_sem, Bool.and_self, eq_self]; done) | omega | (simp only [gl1, gl2]; omega)) only [go_sem, ↓reduceIte, Nat.reduceEqDiff, Nat.reduceAdd, Nat.reduceMul, Nat.reduceSub, Int.reduceToNat, Nat.reduceBEq], by simp (disch := first | (simp only [go_sem, Bool.and_self, eq_self]; done) | omega | (simp only [gl1, gl2]; omega)) only [go_sem, ↓reduceIte, Nat.reduceEqDiff, Nat.reduceAdd, Nat.reduceMul, Nat.reduceSub, Int.reduceToNat, Nat.reduceBEq], rfl⟩ ?_
  rintro j st h hj s5 ⟨s0, s1, hb⟩
  by_cases hlt : j < l.length
  case neg =>
    rw [hasB_all l v (by omega)] at hb
    simp (disch := first | (simp only [go_sem, Bool.and_self, eq_self]; done) | omega | (simp only [gl1, gl2]; omega)) only [go_sem, ↓reduceIte, Nat.reduceEqDiff, Nat.reduceAdd, Nat.reduceMul, Nat.reduceSub, Int.reduceToNat, Nat.reduceBEq, s0, s1, s5, hlt, hb]
  have hst := hasB_take l v j hlt
  rw [hb, Bool.false_or] at hst
  by_cases hc : nth l j = v
  · have hr : hasB l v = true := by
      rw [hasB, List.any_eq_true]; exact ⟨nth l j, nth_mem hlt, by simp [hc]⟩
    simp (disch := first | (simp only [go_sem, Bool.and_self, eq_self]; done) | omega | (simp only [gl1, gl2]; omega)) only [go_sem, ↓reduceIte, Nat.reduceEqDiff, Nat.reduceAdd, Nat.reduceMul, Nat.reduceSub, Int.reduceToNat, Nat.reduceBEq, s0, s1, s5, hlt, hc, hr, eq_self, decide_true]
  · simp (disch := first | (simp only [go_sem, Bool.and_self, eq_self]; done) | omega | (simp only [gl1, gl2]; omega)) only [go_sem, ↓reduceIte, Nat.reduceEqDiff, Nat.reduceAdd, Nat.reduceMul, Nat.reduceSub, Int.reduceToNat, Nat.reduceBEq, s0, s1, s5, hlt, hc]
    rw [ForK_normal]
    exact ⟨hlt, by simp (disch := first | (simp only [go_sem, Bool.and_self, eq_self]; done) | omega | (simp only [gl1, gl2]; omega)) only [go_sem, ↓reduceIte, Nat.reduceEqDiff, Nat.reduceAdd, Nat.reduceMul, Nat.reduceSub, Int.reduceToNat, Nat.reduceBEq, s5], by simp (disch := first | (simp only [go_sem, Bool.and_self, eq_self]; done) | omega | (simp only [gl1, gl2]; omega)) only [go_sem, ↓reduceIte, Nat.reduceEqDiff, Nat.reduceAdd, Nat.reduceMul, Nat.reduceSub, Int.reduceToNat, Nat.reduceBEq, s0], by simp (disch := first | (simp only [go_sem, Bool.and_self, eq_self]; done) | omega | (simp only [gl1, gl2]; omega)) only [go_sem, ↓reduceIte, Nat.reduceEqDiff, Nat.reduceAdd, Nat.reduceMul, Nat.reduceSub, Int.reduceToNat, Nat.reduceBEq, s1], by rw [hst]; exact decide_eq_false hc⟩

/-- Is the i-th number of a list where it may stand? -/
def posB (n : Nat) (l : List Int) (i : Nat) : Bool := (decide (0 ≤ nth l i) && decide (nth l i < n)) && (decide (i = 0) || decide (nth l (i - 1) < nth l i))
def ruleOK (n : Nat) (l : List Int) : Bool := (List.range l.length).all (posB n l)
theorem f31_con (n : Nat) (hn : n ≤ 8) (l : List Int) (hl : l.length ≤ maxLen) : Con Try.prog cfg 31 [I n, LI l] (.bool (ruleOK n l)) := by
  have ml : maxLen = 9223372036854775807 := by decide
  obtain ⟨b, hb⟩ : ∃ b, b = ruleOK n l := ⟨_, rfl⟩
  have hno : ∀ i, i < l.length → posB n l i = false → b = false := fun i hi h => by rw [hb, ruleOK, notR hi h]
  have hyes : (∀ i, i < l.length → posB n l i = true) → b = true := fun h => by rw [hb, ruleOK, allR h]
  rw [← hb]
  refine Con_intro Try.func31 rfl ok31 (Nat.le_of_ble_eq_true rfl) rfl ?_
  simp only [Try.f31, Option.getD_some, initSt2]
  simp (disch := first | (simp only [go_sem, Bool.and_self, eq_self]; done) | omega | (simp only [gl1, gl2]; omega)) only [go_sem, ↓reduceIte, Nat.reduceEqDiff, Nat.reduceAdd, Nat.reduceMul, Nat.reduceSub, Int.reduceToNat, Nat.reduceBEq]
  refine WP_for 5 l.length (fun j st h => st 0 = I n ∧ st 1 = LI l ∧ ∀ k, k < j → posB n l k = true) (by simp (disch := first | (simp only [go_sem, Bool.and_self, eq_self]; done) | omega | (simp only [gl1, gl2]; omega)) only [go_sem, ↓reduceIte, Nat.reduceEqDiff, Nat.reduceAdd, Nat.reduceMul, Nat.reduceSub, Int.reduceToNat, Nat.reduceBEq]) ⟨by simp (disch := first | (simp only [go_sem, Bool.and_self, eq_self]; done) | omega | (simp only [gl1, gl2]; omega)) only [go_sem, ↓reduceIte, Nat.reduceEqDiff, Nat.reduceAdd, Nat.reduceMul, Nat.reduceSub, Int.reduceToNat, Nat.reduceBEq], by simp (disch := first | (simp only [go_sem, Bool.and_self, eq_self]; done) | omega | (simp only [gl1, gl2]; omega)) only [go_sem, ↓reduceIte, Nat.reduceEqDiff, Nat.reduceAdd, Nat.reduceMul, Nat.reduceSub, Int.reduceToNat, Nat.reduceBEq], by omega⟩ ?_
  rintro j st h hj s5 ⟨s0, s1, hall⟩
  by_cases hlt : j < l.length
  case neg =>
    have hr := hyes fun k hk => hall k (by omega)
    simp (disch := first | (simp only [go_sem, Bool.and_self, eq_self]; done) | omega | (simp only [gl1, gl2]; omega)) only [go_sem, ↓reduceIte, Nat.reduceEqDiff, Nat.reduceAdd, Nat.reduceMul, Nat.reduceSub, Int.reduceToNat, Nat.reduceBEq, s0, s1, s5, hlt, hr]
  have hp : posB n l j = ((decide (0 ≤ nth l j) && decide (nth l j < n)) && (decide (j = 0) || decide (nth l (j - 1) < nth l j))) := rfl
  by_cases c1 : nth l j < 0
  · have hr := hno j hlt (by rw [hp, decide_eq_false (show ¬ 0 ≤ nth l j by omega)]; rfl)
    simp (disch := first | (simp only [go_sem, Bool.and_self, eq_self]; done) | omega | (simp only [gl1, gl2]; omega)) only [go_sem, ↓reduceIte, Nat.reduceEqDiff, Nat.reduceAdd, Nat.reduceMul, Nat.reduceSub, Int.reduceToNat, Nat.reduceBEq, s0, s1, s5, hlt, c1, hr]
  by_cases c2 : (n : Int) ≤ nth l j
  · have hr := hno j hlt (by rw [hp, decide_eq_false (show ¬ nth l j < n by omega), Bool.and_false, Bool.false_and])
    simp (disch := first | (simp only [go_sem, Bool.and_self, eq_self]; done) | omega | (simp only [gl1, gl2]; omega)) only [go_sem, ↓reduceIte, Nat.reduceEqDiff, Nat.reduceAdd, Nat.reduceMul, Nat.reduceSub, Int.reduceToNat, Nat.reduceBEq, s0, s1, s5, hlt, c1, c2, hr]
  by_cases c3 : 0 < j
  · have c3' : (0 : Int) < j := by omega
    have c4 : (0 : Int) ≤ (j : Int) - 1 := by omega
    have c5 : (j : Int) - 1 < l.length := by omega
    have c6 : ((j : Int) - 1).toNat = j - 1 := by omega
    have c7 : j - 1 < l.length := by omega
    by_cases c8 : nth l j ≤ nth l (j - 1)
    · have hr := hno j hlt (by rw [hp, decide_eq_false (show ¬ j = 0 by omega), decide_eq_false (show ¬ nth l (j - 1) < nth l j by omega), Bool.or_false, Bool.and_false])
      simp (disch := first | (simp only [go_sem, Bool.and_self, eq_self]; done) | omega | (simp only [gl1, gl2]; omega)) only [go_sem, ↓reduceIte, Nat.reduceEqDiff, Nat.reduceAdd, Nat.reduceMul, Nat.reduceSub, Int.reduceToNat, Nat.reduceBEq, s0, s1, s5, hlt, c1, c2, c3', c4, c5, c6, c7, c8, hr]
    · simp (disch := first | (simp only [go_sem, Bool.and_self, eq_self]; done) | omega | (simp only [gl1, gl2]; omega)) only [go_sem, ↓reduceIte, Nat.reduceEqDiff, Nat.reduceAdd, Nat.reduceMul, Nat.reduceSub, Int.reduceToNat, Nat.reduceBEq, s0, s1, s5, hlt, c1, c2, c3', c4, c5, c6, c7, c8]
      rw [ForK_normal]
      refine ⟨hlt, by simp (disch := first | (simp only [go_sem, Bool.and_self, eq_self]; done) | omega | (simp only [gl1, gl2]; omega)) only [go_sem, ↓reduceIte, Nat.reduceEqDiff, Nat.reduceAdd, Nat.reduceMul, Nat.reduceSub, Int.reduceToNat, Nat.reduceBEq, s5], by simp (disch := first | (simp only [go_sem, Bool.and_self, eq_self]; done) | omega | (simp only [gl1, gl2]; omega)) only [go_sem, ↓reduceIte, Nat.reduceEqDiff, Nat.reduceAdd, Nat.reduceMul, Nat.reduceSub, Int.reduceToNat, Nat.reduceBEq, s0], by simp (disch := first | (simp only [go_sem, Bool.and_self, eq_self]; done) | omega | (simp only [gl1, gl2]; omega)) only [go_sem, ↓reduceIte, Nat.reduceEqDiff, Nat.reduceAdd, Nat.reduceMul, Nat.reduceSub, Int.reduceToNat, Nat.reduceBEq, s1], fun k hk => ?_⟩
      by_cases hkj : k = j
      · subst hkj
        rw [hp, decide_eq_true (show 0 ≤ nth l k by omega), decide_eq_true (show nth l k < n by omega), decide_eq_true (show nth l (k - 1) < nth l k by omega), Bool.or_true]; rfl
      · exact hall k (by omega)
  · obtain rfl : j = 0 := by omega
    have c3' : ¬ ((0 : Int) < ((0 : Nat) : Int)) := by decide
    simp (disch := first | (simp only [go_sem, Bool.and_self, eq_self]; done) | omega | (simp only [gl1, gl2]; omega)) only [go_sem, ↓reduceIte, Nat.reduceEqDiff, Nat.reduceAdd, Nat.reduceMul, Nat.reduceSub, Int.reduceToNat, Nat.reduceBEq, s0, s1, s5, hlt, c1, c2, c3']
    rw [ForK_normal]
    refine ⟨hlt, by simp (disch := first | (simp only [go_sem, Bool.and_self, eq_self]; done) | omega | (simp only [gl1, gl2]; omega)) only [go_sem, ↓reduceIte, Nat.reduceEqDiff, Nat.reduceAdd, Nat.reduceMul, Nat.reduceSub, Int.reduceToNat, Nat.reduceBEq, s5], by simp (disch := first | (simp only [go_sem, Bool.and_self, eq_self]; done) | omega | (simp only [gl1, gl2]; omega)) only [go_sem, ↓reduceIte, Nat.reduceEqDiff, Nat.reduceAdd, Nat.reduceMul, Nat.reduceSub, Int.reduceToNat, Nat.reduceBEq, s0], by simp (disch := first | (simp only [go_sem, Bool.and_self, eq_self]; done) | omega | (simp only [gl1, gl2]; omega)) only [go_sem, ↓reduceIte, Nat.reduceEqDiff, Nat.reduceAdd, Nat.reduceMul, Nat.reduceSub, Int.reduceToNat, Nat.reduceBEq, s1], fun k hk => ?_⟩
    obtain rfl : k = 0 := by omega
    rw [hp, decide_eq_true (show 0 ≤ nth l 0 by omega), decide_eq_true (show nth l 0 < n by omega)]; rfl

/-- The number of a rule that is given as a list. -/
noncomputable def xOf (n : Nat) (l : List Int) : Nat := Classical.choose (bits_ex (fun k => hasB l k) n)
theorem xOf_lt (n : Nat) (l : List Int) : xOf n l < 2 ^ n := (Classical.choose_spec (bits_ex (fun k => hasB l k) n)).1
theorem xOf_bit {n : Nat} (l : List Int) {i : Nat} (hi : i < n) : ruleB (xOf n l) i = hasB l i := (Classical.choose_spec (bits_ex (fun k => hasB l k) n)).2 i hi
theorem bolA_congr {L L' : Nat → Bool} (h : ∀ k, k < 6 → L k = L' k) : bolA L = bolA L' := by
  refine List.map_congr_left fun k hk => ?_
  rw [h k (List.mem_range.1 hk)]
theorem has_out {n : Nat} {l : List Int} (h : ruleOK n l = true) {k : Nat} (hk : n ≤ k) : hasB l k = false := by
  rw [hasB, List.any_eq_false]
  intro x hx
  obtain ⟨i, hi, rfl⟩ := List.getElem_of_mem hx
  have := ofR h hi
  simp only [posB, Bool.and_eq_true, decide_eq_true_eq] at this
  rw [nth_getElem hi] at this
  simp; omega
open Classical in
noncomputable def rulR (nx : List (List Int)) (pay cost l : List Int) : AV :=
  if chB nx pay cost && ruleOK nx.length l then (if sndB nx.length (wF nx) (xOf nx.length l) then .tup [LP (valL nx pay cost (xOf nx.length l)), I 0] else .tup [LP [], I 6]) else .tup [LP [], I 2]
theorem f29_nil (p c l : List Int) : Con Try.prog cfg 29 [.agg [.nil, LI p, LI c], LI l] (.tup [LP [], I 2]) := by
  have hal : ∀ g : Hp, allocB g (some (.agg [.nil, LI p, LI c])) = some (.ptr g.nx 0, g.alloc (.cells false false [.nil, LI p, LI c])) := fun g => allocB_agg _ rfl
  have k48 := fun h h' K => ConW_num (h := h) (h' := h') (K := K) (f48_nil p c) rfl
  have hse : ∀ h : Hp, sealA h (.agg [.nil, LI p, LI c]) = some (.agg [.nil, LI p, LI c], h) := fun h => sealA_agg _ (by simp only [AV.pureL, pure_L, Bool.and_true]; rfl)
  refine Con_intro Try.func29 rfl ok29 (Nat.le_of_ble_eq_true rfl) rfl ?_
  simp only [Try.f29, Option.getD_some, initSt2]
  simp (disch := first | (simp only [go_sem, Bool.and_self, eq_self]; done) | omega | (simp only [gl1, gl2]; omega)) only [go_sem, ↓reduceIte, Nat.reduceEqDiff, Nat.reduceAdd, Nat.reduceMul, Nat.reduceSub, Int.reduceToNat, Nat.reduceBEq, hal, k48, hse]
  rfl
theorem f29_con (nx : List (List Int)) (pay cost l : List Int) (hk : okN nx pay cost) (hl : l.length ≤ maxLen) : Con Try.prog cfg 29 [chA nx pay cost, LI l] (rulR nx pay cost l) := by
  have ml : maxLen = 9223372036854775807 := by decide
  have hal : ∀ g : Hp, allocB g (some (chA nx pay cost)) = some (.ptr g.nx 0, g.alloc (.cells false false [LLI nx, LI pay, LI cost])) := fun g => allocB_agg _ rfl
  have k48 := fun h h' K => ConW_num (h := h) (h' := h') (K := K) (f48_con nx pay cost hk) rfl
  have hse : ∀ h : Hp, sealA h (chA nx pay cost) = some (chA nx pay cost, h) := fun h => sealA_agg _ (by simp only [AV.pureL, pure_L, Bool.and_true])
  cases hc : chB nx pay cost with
  | false =>
    have hr : rulR nx pay cost l = .tup [LP [], I 2] := by rw [rulR, hc]; rfl
    rw [hr]
    refine Con_intro Try.func29 rfl ok29 (Nat.le_of_ble_eq_true rfl) rfl ?_
    simp only [Try.f29, Option.getD_some, initSt2]
    simp (disch := first | (simp only [go_sem, Bool.and_self, eq_self]; done) | omega | (simp only [gl1, gl2]; omega)) only [go_sem, ↓reduceIte, Nat.reduceEqDiff, Nat.reduceAdd, Nat.reduceMul, Nat.reduceSub, Int.reduceToNat, Nat.reduceBEq, hal, k48, hse, hc]
    rfl
  | true =>
  have C := okC.of hc
  obtain ⟨n, hn⟩ : ∃ n, n = nx.length := ⟨_, rfl⟩
  have hn1 := C.n1
  have hn6 := C.n6
  have hz82 : [AV.bool false, .bool false, .bool false, .bool false, .bool false, .bool false] = bolA fun _ => false := rfl
  obtain ⟨res, hres⟩ : ∃ res, res = rulR nx pay cost l := ⟨_, rfl⟩
  have hno : ∀ i, i < l.length → posB n l i = false → res = .tup [LP [], I 2] := fun i hi h => by
    rw [hres, rulR, ← hn, ruleOK, notR hi h, Bool.and_false]; rfl
  rw [← hres]
  refine Con_intro Try.func29 rfl ok29 (Nat.le_of_ble_eq_true rfl) rfl ?_
  simp only [Try.f29, Option.getD_some, initSt2]
  simp (disch := first | (simp only [go_sem, Bool.and_self, eq_self]; done) | omega | (simp only [gl1, gl2]; omega)) only [go_sem, ↓reduceIte, Nat.reduceEqDiff, Nat.reduceAdd, Nat.reduceMul, Nat.reduceSub, Int.reduceToNat, Nat.reduceBEq, hal, k48, hse, hc]
  refine WP_cut (fun st h => st 2 = .ptr 0 0 ∧ st 6 = .ptr 1 0 ∧ 2 ≤ h.nx ∧ h.bl 0 = some (.cells false false [LLI nx, LI pay, LI cost]) ∧ h.bl 1 = some (.cells false false (bolA fun k => hasB l k)) ∧ ruleOK n l = true) ?_ ?_
  · refine WP_for 14 l.length (fun i st h => st 1 = LI l ∧ st 2 = .ptr 0 0 ∧ st 6 = .ptr 1 0 ∧ st 12 = LI l ∧ st 13 = I l.length ∧ 2 ≤ h.nx ∧ h.bl 0 = some (.cells false false [LLI nx, LI pay, LI cost]) ∧ h.bl 1 = some (.cells false false (bolA fun k => hasB (l.take i) k)) ∧ ∀ k, k < i → posB n l k = true) (by simp (disch := first | (simp only [go_sem, Bool.and_self, eq_self]; done) | omega | (simp only [gl1, gl2]; omega)) only [go_sem, ↓reduceIte, Nat.reduceEqDiff, Nat.reduceAdd, Nat.reduceMul, Nat.reduceSub, Int.reduceToNat, Nat.reduceBEq])
      ⟨by simp (disch := first | (simp only [go_sem, Bool.and_self, eq_self]; done) | omega | (simp only [gl1, gl2]; omega)) only [go_sem, ↓reduceIte, Nat.reduceEqDiff, Nat.reduceAdd, Nat.reduceMul, Nat.reduceSub, Int.reduceToNat, Nat.reduceBEq], by simp (disch := first | (simp only [go_sem, Bool.and_self, eq_self]; done) | omega | (simp only [gl1, gl2]; omega)) only [go_sem, ↓reduceIte, Nat.reduceEqDiff, Nat.reduceAdd, Nat.reduceMul, Nat.reduceSub, Int.reduceToNat, Nat.reduceBEq], by simp (disch := first | (simp only [go_sem, Bool.and_self, eq_self]; done) | omega | (simp only [gl1, gl2]; omega)) only [go_sem, ↓reduceIte, Nat.reduceEqDiff, Nat.reduceAdd, Nat.reduceMul, Nat.reduceSub, Int.reduceToNat, Nat.reduceBEq], by simp (disch := first | (simp only [go_sem, Bool.and_self, eq_self]; done) | omega | (simp only [gl1, gl2]; omega)) only [go_sem, ↓reduceIte, Nat.reduceEqDiff, Nat.reduceAdd, Nat.reduceMul, Nat.reduceSub, Int.reduceToNat, Nat.reduceBEq], by simp (disch := first | (simp only [go_sem, Bool.and_self, eq_self]; done) | omega | (simp only [gl1, gl2]; omega)) only [go_sem, ↓reduceIte, Nat.reduceEqDiff, Nat.reduceAdd, Nat.reduceMul, Nat.reduceSub, Int.reduceToNat, Nat.reduceBEq], by simp (disch := first | (simp only [go_sem, Bool.and_self, eq_self]; done) | omega | (simp only [gl1, gl2]; omega)) only [go_sem, ↓reduceIte, Nat.reduceEqDiff, Nat.reduceAdd, Nat.reduceMul, Nat.reduceSub, Int.reduceToNat, Nat.reduceBEq]; decide, by simp (disch := first | (simp only [go_sem, Bool.and_self, eq_self]; done) | omega | (simp only [gl1, gl2]; omega)) only [go_sem, ↓reduceIte, Nat.reduceEqDiff, Nat.reduceAdd, Nat.reduceMul, Nat.reduceSub, Int.reduceToNat, Nat.reduceBEq], by simp (disch := first | (simp only [go_sem, Bool.and_self, eq_self]; done) | omega | (simp only [gl1, gl2]; omega)) only [go_sem, ↓reduceIte, Nat.reduceEqDiff, Nat.reduceAdd, Nat.reduceMul, Nat.reduceSub, Int.reduceToNat, Nat.reduceBEq, hz82]; rfl, by omega⟩ ?_
    rintro i st h hi s14 ⟨s1, s2, s6, s12, s13, hnx, b0, b1, hall⟩
    by_cases hlt : i < l.length
    case neg =>
      have hbb : (bolA fun k => hasB (l.take i) k) = bolA fun k => hasB l k := by congr 1; funext k; rw [hasB_all l k (by omega)]
      rw [hbb] at b1
      simp (disch := first | (simp only [go_sem, Bool.and_self, eq_self]; done) | omega | (simp only [gl1, gl2]; omega)) only [go_sem, ↓reduceIte, Nat.reduceEqDiff, Nat.reduceAdd, Nat.reduceMul, Nat.reduceSub, Int.reduceToNat, Nat.reduceBEq, s1, s2, s6, s12, s13, s14, hlt]
      exact ⟨hnx, b0, b1, allR fun k hk => hall k (by omega)⟩
    have hlt' : (i : Int) < l.length := by omega
    have hp : posB n l i = ((decide (0 ≤ nth l i) && decide (nth l i < n)) && (decide (i = 0) || decide (nth l (i - 1) < nth l i))) := rfl
    have hin : inB (nth l i) 0 ((nx.length : Int) - 1) = (decide (0 ≤ nth l i) && decide (nth l i < n)) := by
      rw [inB]; congr 1; exact decide_eq_decide.2 (by omega)
    cases c1 : inB (nth l i) 0 ((nx.length : Int) - 1) with
    | false =>
      have hr := hno i hlt (by rw [hp, ← hin, c1]; rfl)
      simp (disch := first | (simp only [go_sem, Bool.and_self, eq_self]; done) | omega | (simp only [gl1, gl2]; omega)) only [go_sem, ↓reduceIte, Nat.reduceEqDiff, Nat.reduceAdd, Nat.reduceMul, Nat.reduceSub, Int.reduceToNat, Nat.reduceBEq, s1, s2, s6, s12, s13, s14, hlt, b0, c1, hr]
      rfl
    | true =>
    have c1' := c1
    simp only [inB, Bool.and_eq_true, decide_eq_true_eq] at c1'
    obtain ⟨v, hv⟩ : ∃ v : Nat, (v : Int) = nth l i := ⟨(nth l i).toNat, by omega⟩
    have hv6 : v < 6 := by omega
    have hv6' : (v : Int) < 6 := by omega
    have hset : bolA (setB (fun k => hasB (l.take i) k) v true) = bolA fun k => hasB (l.take (i + 1)) k := by
      congr 1; funext k
      rw [hasB_take l k i hlt, setB]
      by_cases hkv : k = v
      · subst hkv; rw [if_pos rfl, ← hv]; simp
      · rw [if_neg hkv, ← hv, decide_eq_false (by omega), Bool.or_false]
    rw [← hv] at c1
    by_cases c3 : 0 < i
    · have c3' : (0 : Int) < i := by omega
      have c4 : (0 : Int) ≤ (i : Int) - 1 := by omega
      have c5 : (i : Int) - 1 < l.length := by omega
      have c6 : ((i : Int) - 1).toNat = i - 1 := by omega
      have c7 : i - 1 < l.length := by omega
      by_cases c8 : (v : Int) ≤ nth l (i - 1)
      · have hr := hno i hlt (by rw [hp, decide_eq_false (show ¬ i = 0 by omega), decide_eq_false (show ¬ nth l (i - 1) < nth l i by omega), Bool.or_false, Bool.and_false])
        simp (disch := first | (simp only [go_sem, Bool.and_self, eq_self]; done) | omega | (simp only [gl1, gl2]; omega)) only [go_sem, ↓reduceIte, Nat.reduceEqDiff, Nat.reduceAdd, Nat.reduceMul, Nat.reduceSub, Int.reduceToNat, Nat.reduceBEq, s1, s2, s6, s12, s13, s14, hlt, ← hv, b0, c1, c3', c4, c5, c6, c7, c8, hr]
        rfl
      · simp (disch := first | (simp only [go_sem, Bool.and_self, eq_self]; done) | omega | (simp only [gl1, gl2]; omega)) only [go_sem, ↓reduceIte, Nat.reduceEqDiff, Nat.reduceAdd, Nat.reduceMul, Nat.reduceSub, Int.reduceToNat, Nat.reduceBEq, s1, s2, s6, s12, s13, s14, hlt, ← hv, b0, b1, c1, c3', c4, c5, c6, c7, c8, hv6, hv6', hset]
        rw [ForK_normal]
        refine ⟨hlt, by simp (disch := first | (simp only [go_sem, Bool.and_self, eq_self]; done) | omega | (simp only [gl1, gl2]; omega)) only [go_sem, ↓reduceIte, Nat.reduceEqDiff, Nat.reduceAdd, Nat.reduceMul, Nat.reduceSub, Int.reduceToNat, Nat.reduceBEq, s14], by simp (disch := first | (simp only [go_sem, Bool.and_self, eq_self]; done) | omega | (simp only [gl1, gl2]; omega)) only [go_sem, ↓reduceIte, Nat.reduceEqDiff, Nat.reduceAdd, Nat.reduceMul, Nat.reduceSub, Int.reduceToNat, Nat.reduceBEq, s1], by simp (disch := first | (simp only [go_sem, Bool.and_self, eq_self]; done) | omega | (simp only [gl1, gl2]; omega)) only [go_sem, ↓reduceIte, Nat.reduceEqDiff, Nat.reduceAdd, Nat.reduceMul, Nat.reduceSub, Int.reduceToNat, Nat.reduceBEq, s2], by simp (disch := first | (simp only [go_sem, Bool.and_self, eq_self]; done) | omega | (simp only [gl1, gl2]; omega)) only [go_sem, ↓reduceIte, Nat.reduceEqDiff, Nat.reduceAdd, Nat.reduceMul, Nat.reduceSub, Int.reduceToNat, Nat.reduceBEq, s6], by simp (disch := first | (simp only [go_sem, Bool.and_self, eq_self]; done) | omega | (simp only [gl1, gl2]; omega)) only [go_sem, ↓reduceIte, Nat.reduceEqDiff, Nat.reduceAdd, Nat.reduceMul, Nat.reduceSub, Int.reduceToNat, Nat.reduceBEq, s12], by simp (disch := first | (simp only [go_sem, Bool.and_self, eq_self]; done) | omega | (simp only [gl1, gl2]; omega)) only [go_sem, ↓reduceIte, Nat.reduceEqDiff, Nat.reduceAdd, Nat.reduceMul, Nat.reduceSub, Int.reduceToNat, Nat.reduceBEq, s13], hnx, by simp (disch := first | (simp only [go_sem, Bool.and_self, eq_self]; done) | omega | (simp only [gl1, gl2]; omega)) only [go_sem, ↓reduceIte, Nat.reduceEqDiff, Nat.reduceAdd, Nat.reduceMul, Nat.reduceSub, Int.reduceToNat, Nat.reduceBEq, b0], by simp (disch := first | (simp only [go_sem, Bool.and_self, eq_self]; done) | omega | (simp only [gl1, gl2]; omega)) only [go_sem, ↓reduceIte, Nat.reduceEqDiff, Nat.reduceAdd, Nat.reduceMul, Nat.reduceSub, Int.reduceToNat, Nat.reduceBEq], fun k hk => ?_⟩
        by_cases hki : k = i
        · subst hki
          rw [hp, decide_eq_true (show 0 ≤ nth l k by omega), decide_eq_true (show nth l k < n by omega), decide_eq_true (show nth l (k - 1) < nth l k by omega), Bool.or_true]; rfl
        · exact hall k (by omega)
    · obtain rfl : i = 0 := by omega
      have c3' : ¬ ((0 : Int) < ((0 : Nat) : Int)) := by decide
      simp (disch := first | (simp only [go_sem, Bool.and_self, eq_self]; done) | omega | (simp only [gl1, gl2]; omega)) only [go_sem, ↓reduceIte, Nat.reduceEqDiff, Nat.reduceAdd, Nat.reduceMul, Nat.reduceSub, Int.reduceToNat, Nat.reduceBEq, s1, s2, s6, s12, s13, s14, hlt, ← hv, b0, b1, c1, c3', hv6, hv6', hset]
      rw [ForK_normal]
      refine ⟨hlt, by simp (disch := first | (simp only [go_sem, Bool.and_self, eq_self]; done) | omega | (simp only [gl1, gl2]; omega)) only [go_sem, ↓reduceIte, Nat.reduceEqDiff, Nat.reduceAdd, Nat.reduceMul, Nat.reduceSub, Int.reduceToNat, Nat.reduceBEq, s14], by simp (disch := first | (simp only [go_sem, Bool.and_self, eq_self]; done) | omega | (simp only [gl1, gl2]; omega)) only [go_sem, ↓reduceIte, Nat.reduceEqDiff, Nat.reduceAdd, Nat.reduceMul, Nat.reduceSub, Int.reduceToNat, Nat.reduceBEq, s1], by simp (disch := first | (simp only [go_sem, Bool.and_self, eq_self]; done) | omega | (simp only [gl1, gl2]; omega)) only [go_sem, ↓reduceIte, Nat.reduceEqDiff, Nat.reduceAdd, Nat.reduceMul, Nat.reduceSub, Int.reduceToNat, Nat.reduceBEq, s2], by simp (disch := first | (simp only [go_sem, Bool.and_self, eq_self]; done) | omega | (simp only [gl1, gl2]; omega)) only [go_sem, ↓reduceIte, Nat.reduceEqDiff, Nat.reduceAdd, Nat.reduceMul, Nat.reduceSub, Int.reduceToNat, Nat.reduceBEq, s6], by simp (disch := first | (simp only [go_sem, Bool.and_self, eq_self]; done) | omega | (simp only [gl1, gl2]; omega)) only [go_sem, ↓reduceIte, Nat.reduceEqDiff, Nat.reduceAdd, Nat.reduceMul, Nat.reduceSub, Int.reduceToNat, Nat.reduceBEq, s12], by simp (disch := first | (simp only [go_sem, Bool.and_self, eq_self]; done) | omega | (simp only [gl1, gl2]; omega)) only [go_sem, ↓reduceIte, Nat.reduceEqDiff, Nat.reduceAdd, Nat.reduceMul, Nat.reduceSub, Int.reduceToNat, Nat.reduceBEq, s13], hnx, by simp (disch := first | (simp only [go_sem, Bool.and_self, eq_self]; done) | omega | (simp only [gl1, gl2]; omega)) only [go_sem, ↓reduceIte, Nat.reduceEqDiff, Nat.reduceAdd, Nat.reduceMul, Nat.reduceSub, Int.reduceToNat, Nat.reduceBEq, b0], by simp (disch := first | (simp only [go_sem, Bool.and_self, eq_self]; done) | omega | (simp only [gl1, gl2]; omega)) only [go_sem, ↓reduceIte, Nat.reduceEqDiff, Nat.reduceAdd, Nat.reduceMul, Nat.reduceSub, Int.reduceToNat, Nat.reduceBEq], fun k hk => ?_⟩
      obtain rfl : k = 0 := by omega
      rw [hp, decide_eq_true (show 0 ≤ nth l 0 by omega), decide_eq_true (show nth l 0 < n by omega)]; rfl
  · rintro st h ⟨s2, s6, hnx, b0, b1, hok⟩
    have hu : uR nx.length (xOf nx.length l) = .agg (bolA fun k => hasB l k) := by
      rw [uR, uR_bol]
      congr 1
      refine bolA_congr fun k hk => ?_
      by_cases hkn : k < nx.length
      · rw [if_pos hkn, xOf_bit l hkn]
      · rw [if_neg hkn, has_out hok (by omega)]
    have k54 := fun h h' K => ConW_num (h := h) (h' := h') (K := K) (f54_con C (xOf nx.length l)) rfl
    have c56 := f56_con C (xOf nx.length l)
    rw [hu] at k54 c56
    have hld : loadC (some (.array 6 4)) (some 6) (some (bolA fun k => hasB l k, 0)) = some (.agg (bolA fun k => hasB l k)) := by
      have := loadC_agg (.array 6 4) 6 rfl (bolA fun k => hasB l k) 0 (by rw [bolA_len]; omega)
      rw [this, List.drop_zero, List.take_of_length_le (by rw [bolA_len]; omega)]
    have hse2 : ∀ h : Hp, sealA h (.agg (bolA fun k => hasB l k)) = some (.agg (bolA fun k => hasB l k), h) := fun h => sealA_agg _ (pureL_all fun y hy => by obtain ⟨k, _, rfl⟩ := List.mem_map.1 hy; rfl)
    have z0 : 0 < h.nx := by omega
    have z1 : 1 < h.nx := by omega
    cases hsd : sndB nx.length (wF nx) (xOf nx.length l) with
    | false =>
      have hr : res = .tup [LP [], I 6] := by rw [hres, rulR, hc, ← hn, hok, hn, hsd]; rfl
      simp (disch := first | (simp only [go_sem, Bool.and_self, eq_self]; done) | omega | (simp only [gl1, gl2]; omega)) only [go_sem, ↓reduceIte, Nat.reduceEqDiff, Nat.reduceAdd, Nat.reduceMul, Nat.reduceSub, Int.reduceToNat, Nat.reduceBEq, s2, s6, b0, b1, hld, hse, hse2, k54, hsd, hr]
      rfl
    | true =>
      have hr : res = .tup [LP (valL nx pay cost (xOf nx.length l)), I 0] := by rw [hres, rulR, hc, ← hn, hok, hn, hsd]; rfl
      have k56 := fun h h' K => ConW_num (h := h) (h' := h') (K := K) c56 (by rw [eqR]; exact List.all_eq_true.2 fun y hy => by obtain ⟨k, _, rfl⟩ := List.mem_map.1 hy; rfl)
      have k55 := fun h h' K => ConW_any (h := h) (h' := h') (K := K) (f55_con C (xOf nx.length l) (sndB_iff.1 hsd)) rfl
      have hi56 : ∀ h : Hp, importR h (eqR nx pay cost (xOf nx.length l)) = (eqR nx pay cost (xOf nx.length l), h) := fun _ => rfl
      have hse3 : ∀ h : Hp, sealA h (eqR nx pay cost (xOf nx.length l)) = some (eqR nx pay cost (xOf nx.length l), h) := fun h => sealA_agg _ (matA_pure _)
      have hi55 : ∀ (h : Hp) (l : List (Int × Int)), importR h (LP l) = (LP l, h) := fun _ _ => rfl
      simp (disch := first | (simp only [go_sem, Bool.and_self, eq_self]; done) | omega | (simp only [gl1, gl2]; omega)) only [go_sem, ↓reduceIte, Nat.reduceEqDiff, Nat.reduceAdd, Nat.reduceMul, Nat.reduceSub, Int.reduceToNat, Nat.reduceBEq, s2, s6, b0, b1, z0, z1, hld, hse, hse2, k54, hsd, k56, hi56, hse3, k55, hi55, hr]
end Go.Proofs.Ytgamcclfdkpcgaa

set_option linter.unusedVariables false
set_option linter.unusedSimpArgs false
set_option maxRecDepth 10000
namespace Go.Proofs.Ytgamcclfdkpcgaa
open Go Go.Am

variable {h h' : Hp} {K : AV → Hp → Prop}

theorem vecA_flat (f : Nat → Int) (N : Nat) : vecA f N = ((List.range N).map f).flatMap (e1 I) := by
  rw [vecA]
  induction N with
  | zero => rfl
  | succ n ih => rw [List.range_succ, List.map_append, List.map_append, List.flatMap_append, ← ih]; rfl
theorem vecA_zero (N : Nat) : (List.replicate N (0 : Int)).flatMap (e1 I) = vecA (fun _ => 0) N := by
  rw [vecA_flat, List.map_const', List.length_range]
def setV (f : Nat → Int) (k : Nat) (v : Int) : Nat → Int := fun j => if j = k then v else f j
@[go_sem] theorem vecA_store (f : Nat → Int) (id N k : Nat) (row : Bool) (v : Int) (hk : k < N) : storeC h id k 1 (some (.cells false row (vecA f N))) [.int .i64 v] = some (.skp, h.put id (some (.cells false row (vecA (setV f k v) N)))) := by
  rw [storeC_one id _ row _ (I v) rfl (by rw [vecA_len]; omega)]
  congr 5
  refine List.ext_getElem? fun j => ?_
  rw [List.getElem?_set]
  by_cases hj : j < N
  · by_cases e : k = j
    · subst e
      rw [if_pos rfl, if_pos (by rw [vecA_len]; omega), vecA_get _ _ _ hj]
      simp [setV]
    · rw [if_neg e, vecA_get _ _ _ hj, vecA_get _ _ _ hj]
      simp [setV, Ne.symm e]
  · rw [if_neg (by omega), List.getElem?_eq_none (by rw [vecA_len]; omega), List.getElem?_eq_none (by rw [vecA_len]; omega)]
theorem vecA_congr {f g : Nat → Int} {N : Nat} (h : ∀ k, k < N → f k = g k) : vecA f N = vecA g N := by
  refine List.map_congr_left fun k hk => ?_
  rw [h k (List.mem_range.1 hk)]
theorem seal_vec {id N : Nat} {fz row : Bool} {f : Nat → Int} (hb : h.bl id = some (.cells fz row (vecA f N))) : sealA h (.sl id 0 N 1) = some (LI ((List.range N).map f), h.put id (some (.cells true row (vecA f N)))) := by
  rw [vecA_flat] at hb ⊢
  rw [sealA_sl, hb]
  exact sealSl_own (f := e1 I) (sz := 1) (h := h) id N fz row ((List.range N).map f) (by simp)

/-- A list that is being built in blocks from b on. -/
def OwnGe {α : Type} (b : Nat) (f : α → List AV) (sz : Nat) (h : Hp) (v : AV) (xs : List α) : Prop :=
  (v = .nil ∧ xs = []) ∨ ∃ id, b ≤ id ∧ v = .sl id 0 xs.length sz ∧ id < h.nx ∧ h.bl id = some (.cells false true (xs.flatMap f))
theorem OwnGe.own {α : Type} {b : Nat} {f : α → List AV} {sz : Nat} {v : AV} {xs : List α} (o : OwnGe b f sz h v xs) : Go.Am.Own f sz h v xs := by
  rcases o with o | ⟨id, _, o⟩
  · exact .inl o
  · exact .inr ⟨id, o⟩
theorem OwnGe.mono {α : Type} {b : Nat} {f : α → List AV} {sz : Nat} {v : AV} {xs : List α} (o : OwnGe b f sz h v xs) (hn : h.nx ≤ h'.nx) (hb : ∀ id, b ≤ id → id < h.nx → h'.bl id = h.bl id) : OwnGe b f sz h' v xs := by
  rcases o with o | ⟨id, h1, e, h2, h3⟩
  · exact .inl o
  · exact .inr ⟨id, h1, e, by omega, by rw [hb id h1 h2]; exact h3⟩
theorem OwnGe.low {α : Type} {b : Nat} {f : α → List AV} {sz : Nat} {v : AV} {xs : List α} (o : OwnGe b f sz h v xs) {flat : List AV} {i : Nat} (hi : i < b) (hib : i < h.nx) : (appH h v flat).bl i = h.bl i := by
  refine appH_bl _ _ _ _ hib fun id off n s e => ?_
  rcases o with ⟨rfl, _⟩ | ⟨id', h1, e', _⟩
  · cases e
  · rw [e'] at e; cases e; omega
theorem OwnGe.app {α : Type} {b : Nat} {f : α → List AV} {sz : Nat} {v : AV} (h : Hp) (hb : b ≤ h.nx) (xs : List α) : OwnGe b f sz (appH h v (xs.flatMap f)) (appV h xs.length sz) xs := by
  rcases Own.app (f := f) (sz := sz) h v xs with ⟨e, _⟩ | ⟨id, e, h1, h2⟩
  · cases e
  · refine .inr ⟨id, ?_, e, h1, h2⟩
    unfold appV at e; cases e; exact hb
theorem rowL_len (f : Nat → Int) (n : Nat) : ((List.range n).map f).length = n := by simp

theorem f34_con {nx : List (List Int)} {pay cost : List Int} (C : okC nx pay cost) (l : List Int) (hl : l.length ≤ maxLen) (hs : sndP nx.length (wF nx) (ruleB (xOf nx.length l))) :
    Con Try.prog cfg 34 [chA nx pay cost, LI l] (LP (valL nx pay cost (xOf nx.length l))) := by
  obtain ⟨n, hn⟩ : ∃ n, n = nx.length := ⟨_, rfl⟩
  have hn1 := C.n1
  have hn6 := C.n6
  have hlp := C.lp
  have hlc := C.lc
  have hal : ∀ g : Hp, allocB g (some (chA nx pay cost)) = some (.ptr g.nx 0, g.alloc (.cells false false [LLI nx, LI pay, LI cost])) := fun g => allocB_agg _ rfl
  obtain ⟨M, hM⟩ : ∃ M, M = eqM nx.length (wF nx) (pF pay) (pF cost) (ruleB (xOf nx.length l)) := ⟨_, rfl⟩
  have hmk : ∀ g : Hp, makeB Try.prog g (some (.slice 3)) (.int .i64 (n : Int)) (.int .i64 (n : Int)) = some (.sl g.nx 0 n 1, g.alloc (.cells false true (vecA (fun _ => 0) n))) := fun g => by
    have := makeB_int (P := Try.prog) (h := g) 3 (n : Int) isz3 ibytes3 izero3 (by omega) (by omega)
    rwa [Int.toNat_natCast, vecA_zero] at this
  have k57 := fun v h h' K => ConW_num (h := h) (h' := h') (K := K) (f57_con l hl v) rfl
  obtain ⟨R, hR⟩ : ∃ R : Nat → List Int, R = fun i => (List.range n).map fun j => M i j := ⟨_, rfl⟩
  have hbit : ∀ i, i < n → hasB l i = ruleB (xOf nx.length l) i := fun i hi => (xOf_bit l (by omega)).symm
  refine Con_intro Try.func34 rfl ok34 (Nat.le_of_ble_eq_true rfl) rfl ?_
  simp only [Try.f34, Option.getD_some, initSt2]
  simp (disch := first | (simp only [go_sem, Bool.and_self, eq_self]; done) | omega | (simp only [gl1, gl2]; omega)) only [go_sem, ↓reduceIte, Nat.reduceEqDiff, Nat.reduceAdd, Nat.reduceMul, Nat.reduceSub, Int.reduceToNat, Nat.reduceBEq, hal, ← hn, hmk]
  -- the rows and the right side
  refine WP_cut (fun st h => st 2 = .ptr 0 0 ∧ st 5 = I n ∧ st 7 = .sl 1 0 n 1 ∧ 2 ≤ h.nx ∧ h.bl 1 = some (.cells false true (vecA (fun i => M i n) n)) ∧ ∃ v, st 6 = v ∧ OwnGe 2 (e1 LI) 1 h v ((List.range n).map R)) ?_ ?_
  · refine WP_for 8 n (fun i st h => st 1 = LI l ∧ st 2 = .ptr 0 0 ∧ st 5 = I n ∧ st 7 = .sl 1 0 n 1 ∧ 2 ≤ h.nx ∧ h.bl 0 = some (.cells false false [LLI nx, LI pay, LI cost]) ∧ h.bl 1 = some (.cells false true (vecA (fun k => if k < i then M k n else 0) n)) ∧ ∃ v, st 6 = v ∧ OwnGe 2 (e1 LI) 1 h v ((List.range i).map R)) (by simp (disch := first | (simp only [go_sem, Bool.and_self, eq_self]; done) | omega | (simp only [gl1, gl2]; omega)) only [go_sem, ↓reduceIte, Nat.reduceEqDiff, Nat.reduceAdd, Nat.reduceMul, Nat.reduceSub, Int.reduceToNat, Nat.reduceBEq])
      ⟨by simp (disch := first | (simp only [go_sem, Bool.and_self, eq_self]; done) | omega | (simp only [gl1, gl2]; omega)) only [go_sem, ↓reduceIte, Nat.reduceEqDiff, Nat.reduceAdd, Nat.reduceMul, Nat.reduceSub, Int.reduceToNat, Nat.reduceBEq], by simp (disch := first | (simp only [go_sem, Bool.and_self, eq_self]; done) | omega | (simp only [gl1, gl2]; omega)) only [go_sem, ↓reduceIte, Nat.reduceEqDiff, Nat.reduceAdd, Nat.reduceMul, Nat.reduceSub, Int.reduceToNat, Nat.reduceBEq], by simp (disch := first | (simp only [go_sem, Bool.and_self, eq_self]; done) | omega | (simp only [gl1, gl2]; omega)) only [go_sem, ↓reduceIte, Nat.reduceEqDiff, Nat.reduceAdd, Nat.reduceMul, Nat.reduceSub, Int.reduceToNat, Nat.reduceBEq, hn], by simp (disch := first | (simp only [go_sem, Bool.and_self, eq_self]; done) | omega | (simp only [gl1, gl2]; omega)) only [go_sem, ↓reduceIte, Nat.reduceEqDiff, Nat.reduceAdd, Nat.reduceMul, Nat.reduceSub, Int.reduceToNat, Nat.reduceBEq], by simp (disch := first | (simp only [go_sem, Bool.and_self, eq_self]; done) | omega | (simp only [gl1, gl2]; omega)) only [go_sem, ↓reduceIte, Nat.reduceEqDiff, Nat.reduceAdd, Nat.reduceMul, Nat.reduceSub, Int.reduceToNat, Nat.reduceBEq]; decide, by simp (disch := first | (simp only [go_sem, Bool.and_self, eq_self]; done) | omega | (simp only [gl1, gl2]; omega)) only [go_sem, ↓reduceIte, Nat.reduceEqDiff, Nat.reduceAdd, Nat.reduceMul, Nat.reduceSub, Int.reduceToNat, Nat.reduceBEq], by simp (disch := first | (simp only [go_sem, Bool.and_self, eq_self]; done) | omega | (simp only [gl1, gl2]; omega)) only [go_sem, ↓reduceIte, Nat.reduceEqDiff, Nat.reduceAdd, Nat.reduceMul, Nat.reduceSub, Int.reduceToNat, Nat.reduceBEq]; rfl, .nil, by simp (disch := first | (simp only [go_sem, Bool.and_self, eq_self]; done) | omega | (simp only [gl1, gl2]; omega)) only [go_sem, ↓reduceIte, Nat.reduceEqDiff, Nat.reduceAdd, Nat.reduceMul, Nat.reduceSub, Int.reduceToNat, Nat.reduceBEq], .inl ⟨rfl, rfl⟩⟩ ?_
    rintro i st h hi s8 ⟨s1, s2, s5, s7, hnx, b0, b1, v, s6, ov⟩
    by_cases hlt : i < n
    case neg =>
      have hie : i = n := by omega
      subst hie
      have he : vecA (fun k => if k < i then M k i else 0) i = vecA (fun k => M k i) i := vecA_congr fun k hk => if_pos hk
      rw [he] at b1
      simp (disch := first | (simp only [go_sem, Bool.and_self, eq_self]; done) | omega | (simp only [gl1, gl2]; omega)) only [go_sem, ↓reduceIte, Nat.reduceEqDiff, Nat.reduceAdd, Nat.reduceMul, Nat.reduceSub, Int.reduceToNat, Nat.reduceBEq, s1, s2, s5, s6, s7, s8, hlt]
      exact ⟨hnx, b1, _, rfl, ov⟩
    have hi1 : i < nx.length := by omega
    have hi1' : (i : Int) < nx.length := by omega
    have hin' : (i : Int) < n := by omega
    have hip : i < pay.length := by omega
    have hip' : (i : Int) < pay.length := by omega
    have hic : i < cost.length := by omega
    have hic' : (i : Int) < cost.length := by omega
    have hpb := C.pb hi1
    have hcb := C.cb hi1
    have hrow := C.row i hi1
    have n1 : ¬ 1 = h.nx := by omega
    have n1' : ¬ h.nx = 1 := by omega
    have n0 : ¬ 0 = h.nx := by omega
    have n0' : ¬ h.nx = 0 := by omega
    obtain ⟨H, hH⟩ : ∃ H, H = h.nx := ⟨_, rfl⟩
    simp (disch := first | (simp only [go_sem, Bool.and_self, eq_self]; done) | omega | (simp only [gl1, gl2]; omega)) only [go_sem, ↓reduceIte, Nat.reduceEqDiff, Nat.reduceAdd, Nat.reduceMul, Nat.reduceSub, Int.reduceToNat, Nat.reduceBEq, s1, s2, s5, s6, s7, s8, hlt, hmk, k57, ← hH]
    refine condW_joinB (fun st g => st 1 = LI l ∧ st 2 = .ptr 0 0 ∧ st 5 = I n ∧ st 7 = .sl 1 0 n 1 ∧ st 8 = I i ∧ st 6 = v ∧ st 9 = .sl H 0 n 1 ∧ g.nx = H + 1 ∧ g.bl 0 = some (.cells false false [LLI nx, LI pay, LI cost]) ∧ g.bl 1 = some (.cells false true (vecA (fun k => if k < i + 1 then M k n else 0) n)) ∧ g.bl H = some (.cells false true (vecA (M i) n)) ∧ ∀ id, 2 ≤ id → id < H → g.bl id = h.bl id) ?_ ?_ ?_
    · intro hb
      have hr : ruleB (xOf nx.length l) i = true := by rw [← hbit i hlt]; exact hb
      have e1' : vecA (setV (fun _ => 0) i 1) n = vecA (M i) n := vecA_congr fun j hj => by
        rw [hM]; unfold setV eqM
        rw [hr, if_pos rfl, if_neg (show ¬ j = nx.length by omega)]
      have e2' : vecA (setV (fun k => if k < i then M k n else 0) i (nth pay i)) n = vecA (fun k => if k < i + 1 then M k n else 0) n := vecA_congr fun j hj => by
        unfold setV
        by_cases hji : j = i
        · subst hji; rw [if_pos rfl, if_pos (by omega), hM]; unfold eqM; rw [hr, if_pos rfl, if_pos hn]
        · have : (j < i) ↔ (j < i + 1) := by omega
          simp [hji, this]
      have n1H : ¬ 1 = H := by omega
      have n1H' : ¬ H = 1 := by omega
      have n0H : ¬ 0 = H := by omega
      simp (disch := first | (simp only [go_sem, Bool.and_self, eq_self]; done) | omega | (simp only [gl1, gl2]; omega)) only [go_sem, ↓reduceIte, Nat.reduceEqDiff, Nat.reduceAdd, Nat.reduceMul, Nat.reduceSub, Int.reduceToNat, Nat.reduceBEq, s1, s2, s5, s6, s7, s8, hlt, hin', hip, hip', b0, b1, ← hH, n1H, n1H', n0H, e1', e2', List.drop_succ_cons]
      refine fun id h2 h3 => ?_
      rw [if_neg (by omega), if_neg (by omega), if_neg (by omega)]
    · intro hb
      have hr : ruleB (xOf nx.length l) i = false := by rw [← hbit i hlt]; exact hb
      have n1H : ¬ 1 = H := by omega
      have n1H' : ¬ H = 1 := by omega
      have n0H : ¬ 0 = H := by omega
      have n0H' : ¬ H = 0 := by omega
      have hMi : ∀ j, j < n → M i j = (if j = i then 4 else 0) - nth (nth nx i) j := fun j hj => by
        rw [hM]; unfold eqM; rw [hr]; simp [show ¬ j = nx.length by omega]
      simp (disch := first | (simp only [go_sem, Bool.and_self, eq_self]; done) | omega | (simp only [gl1, gl2]; omega)) only [go_sem, ↓reduceIte, Nat.reduceEqDiff, Nat.reduceAdd, Nat.reduceMul, Nat.reduceSub, Int.reduceToNat, Nat.reduceBEq, s1, s2, s5, s6, s7, s8, hlt, b0, b1]
      refine WP_cut (fun st g => st 1 = LI l ∧ st 2 = .ptr 0 0 ∧ st 5 = I n ∧ st 7 = .sl 1 0 n 1 ∧ st 8 = I i ∧ st 6 = v ∧ st 9 = .sl H 0 n 1 ∧ g.nx = H + 1 ∧ g.bl 0 = some (.cells false false [LLI nx, LI pay, LI cost]) ∧ g.bl 1 = some (.cells false true (vecA (fun k => if k < i then M k n else 0) n)) ∧ g.bl H = some (.cells false true (vecA (fun k => - nth (nth nx i) k) n)) ∧ ∀ id, 2 ≤ id → id < H → g.bl id = h.bl id) ?_ ?_
      · refine WP_for 10 n (fun j st g => st 1 = LI l ∧ st 2 = .ptr 0 0 ∧ st 5 = I n ∧ st 7 = .sl 1 0 n 1 ∧ st 8 = I i ∧ st 6 = v ∧ st 9 = .sl H 0 n 1 ∧ g.nx = H + 1 ∧ g.bl 0 = some (.cells false false [LLI nx, LI pay, LI cost]) ∧ g.bl 1 = some (.cells false true (vecA (fun k => if k < i then M k n else 0) n)) ∧ g.bl H = some (.cells false true (vecA (fun k => if k < j then - nth (nth nx i) k else 0) n)) ∧ ∀ id, 2 ≤ id → id < H → g.bl id = h.bl id) (by simp (disch := first | (simp only [go_sem, Bool.and_self, eq_self]; done) | omega | (simp only [gl1, gl2]; omega)) only [go_sem, ↓reduceIte, Nat.reduceEqDiff, Nat.reduceAdd, Nat.reduceMul, Nat.reduceSub, Int.reduceToNat, Nat.reduceBEq])
          ⟨by simp (disch := first | (simp only [go_sem, Bool.and_self, eq_self]; done) | omega | (simp only [gl1, gl2]; omega)) only [go_sem, ↓reduceIte, Nat.reduceEqDiff, Nat.reduceAdd, Nat.reduceMul, Nat.reduceSub, Int.reduceToNat, Nat.reduceBEq, s1], by simp (disch := first | (simp only [go_sem, Bool.and_self, eq_self]; done) | omega | (simp only [gl1, gl2]; omega)) only [go_sem, ↓reduceIte, Nat.reduceEqDiff, Nat.reduceAdd, Nat.reduceMul, Nat.reduceSub, Int.reduceToNat, Nat.reduceBEq, s2], by simp (disch := first | (simp only [go_sem, Bool.and_self, eq_self]; done) | omega | (simp only [gl1, gl2]; omega)) only [go_sem, ↓reduceIte, Nat.reduceEqDiff, Nat.reduceAdd, Nat.reduceMul, Nat.reduceSub, Int.reduceToNat, Nat.reduceBEq, s5], by simp (disch := first | (simp only [go_sem, Bool.and_self, eq_self]; done) | omega | (simp only [gl1, gl2]; omega)) only [go_sem, ↓reduceIte, Nat.reduceEqDiff, Nat.reduceAdd, Nat.reduceMul, Nat.reduceSub, Int.reduceToNat, Nat.reduceBEq, s7], by simp (disch := first | (simp only [go_sem, Bool.and_self, eq_self]; done) | omega | (simp only [gl1, gl2]; omega)) only [go_sem, ↓reduceIte, Nat.reduceEqDiff, Nat.reduceAdd, Nat.reduceMul, Nat.reduceSub, Int.reduceToNat, Nat.reduceBEq, s8], by simp (disch := first | (simp only [go_sem, Bool.and_self, eq_self]; done) | omega | (simp only [gl1, gl2]; omega)) only [go_sem, ↓reduceIte, Nat.reduceEqDiff, Nat.reduceAdd, Nat.reduceMul, Nat.reduceSub, Int.reduceToNat, Nat.reduceBEq, s6], by simp (disch := first | (simp only [go_sem, Bool.and_self, eq_self]; done) | omega | (simp only [gl1, gl2]; omega)) only [go_sem, ↓reduceIte, Nat.reduceEqDiff, Nat.reduceAdd, Nat.reduceMul, Nat.reduceSub, Int.reduceToNat, Nat.reduceBEq], by (rw [hH]; rfl), by simp (disch := first | (simp only [go_sem, Bool.and_self, eq_self]; done) | omega | (simp only [gl1, gl2]; omega)) only [go_sem, ↓reduceIte, Nat.reduceEqDiff, Nat.reduceAdd, Nat.reduceMul, Nat.reduceSub, Int.reduceToNat, Nat.reduceBEq, b0, ← hH, n0H], by simp (disch := first | (simp only [go_sem, Bool.and_self, eq_self]; done) | omega | (simp only [gl1, gl2]; omega)) only [go_sem, ↓reduceIte, Nat.reduceEqDiff, Nat.reduceAdd, Nat.reduceMul, Nat.reduceSub, Int.reduceToNat, Nat.reduceBEq, b1, ← hH, n1H], by simp (disch := first | (simp only [go_sem, Bool.and_self, eq_self]; done) | omega | (simp only [gl1, gl2]; omega)) only [go_sem, ↓reduceIte, Nat.reduceEqDiff, Nat.reduceAdd, Nat.reduceMul, Nat.reduceSub, Int.reduceToNat, Nat.reduceBEq, ← hH]; rfl, fun id h2 h3 => by simp (disch := first | (simp only [go_sem, Bool.and_self, eq_self]; done) | omega | (simp only [gl1, gl2]; omega)) only [go_sem, ↓reduceIte, Nat.reduceEqDiff, Nat.reduceAdd, Nat.reduceMul, Nat.reduceSub, Int.reduceToNat, Nat.reduceBEq, ← hH, show ¬ id = H by omega]⟩ ?_
        rintro j st g hj s10 ⟨s1, s2, s5, s7, s8, s6, s9, gn, g0, g1, gH, go⟩
        by_cases hjn : j < n
        case neg =>
          have hje : j = n := by omega
          subst hje
          have he : vecA (fun k => if k < j then - nth (nth nx i) k else 0) j = vecA (fun k => - nth (nth nx i) k) j := vecA_congr fun k hk => if_pos hk
          rw [he] at gH
          simp (disch := first | (simp only [go_sem, Bool.and_self, eq_self]; done) | omega | (simp only [gl1, gl2]; omega)) only [go_sem, ↓reduceIte, Nat.reduceEqDiff, Nat.reduceAdd, Nat.reduceMul, Nat.reduceSub, Int.reduceToNat, Nat.reduceBEq, s1, s2, s5, s7, s8, s6, s9, s10, hjn]
          exact ⟨gn, g0, g1, gH, go⟩
        have hjr : j < (nth nx i).length := by omega
        have hjr' : (j : Int) < (nth nx i).length := by omega
        have hjn' : (j : Int) < n := by omega
        have hwb := C.wb hi1 (show j < nx.length by omega)
        have e1' : vecA (setV (fun k => if k < j then - nth (nth nx i) k else 0) j (- nth (nth nx i) j)) n = vecA (fun k => if k < j + 1 then - nth (nth nx i) k else 0) n := vecA_congr fun k hk => by
          unfold setV
          by_cases hkj : k = j
          · subst hkj; rw [if_pos rfl, if_pos (by omega)]
          · have : (k < j) ↔ (k < j + 1) := by omega
            simp [hkj, this]
        have hneg : (0 : Int) - nth (nth nx i) j = - nth (nth nx i) j := by omega
        simp (disch := first | (simp only [go_sem, Bool.and_self, eq_self]; done) | omega | (simp only [gl1, gl2]; omega)) only [go_sem, ↓reduceIte, Nat.reduceEqDiff, Nat.reduceAdd, Nat.reduceMul, Nat.reduceSub, Int.reduceToNat, Nat.reduceBEq, s1, s2, s5, s7, s8, s6, s9, s10, hjn, hjn', hi1, hi1', hjr, hjr', g0, gH, hneg, e1']
        rw [ForK_normal]
        refine ⟨hjn, by simp (disch := first | (simp only [go_sem, Bool.and_self, eq_self]; done) | omega | (simp only [gl1, gl2]; omega)) only [go_sem, ↓reduceIte, Nat.reduceEqDiff, Nat.reduceAdd, Nat.reduceMul, Nat.reduceSub, Int.reduceToNat, Nat.reduceBEq, s10], by simp (disch := first | (simp only [go_sem, Bool.and_self, eq_self]; done) | omega | (simp only [gl1, gl2]; omega)) only [go_sem, ↓reduceIte, Nat.reduceEqDiff, Nat.reduceAdd, Nat.reduceMul, Nat.reduceSub, Int.reduceToNat, Nat.reduceBEq, s1], by simp (disch := first | (simp only [go_sem, Bool.and_self, eq_self]; done) | omega | (simp only [gl1, gl2]; omega)) only [go_sem, ↓reduceIte, Nat.reduceEqDiff, Nat.reduceAdd, Nat.reduceMul, Nat.reduceSub, Int.reduceToNat, Nat.reduceBEq, s2], by simp (disch := first | (simp only [go_sem, Bool.and_self, eq_self]; done) | omega | (simp only [gl1, gl2]; omega)) only [go_sem, ↓reduceIte, Nat.reduceEqDiff, Nat.reduceAdd, Nat.reduceMul, Nat.reduceSub, Int.reduceToNat, Nat.reduceBEq, s5], by simp (disch := first | (simp only [go_sem, Bool.and_self, eq_self]; done) | omega | (simp only [gl1, gl2]; omega)) only [go_sem, ↓reduceIte, Nat.reduceEqDiff, Nat.reduceAdd, Nat.reduceMul, Nat.reduceSub, Int.reduceToNat, Nat.reduceBEq, s7], by simp (disch := first | (simp only [go_sem, Bool.and_self, eq_self]; done) | omega | (simp only [gl1, gl2]; omega)) only [go_sem, ↓reduceIte, Nat.reduceEqDiff, Nat.reduceAdd, Nat.reduceMul, Nat.reduceSub, Int.reduceToNat, Nat.reduceBEq, s8], by simp (disch := first | (simp only [go_sem, Bool.and_self, eq_self]; done) | omega | (simp only [gl1, gl2]; omega)) only [go_sem, ↓reduceIte, Nat.reduceEqDiff, Nat.reduceAdd, Nat.reduceMul, Nat.reduceSub, Int.reduceToNat, Nat.reduceBEq, s6], by simp (disch := first | (simp only [go_sem, Bool.and_self, eq_self]; done) | omega | (simp only [gl1, gl2]; omega)) only [go_sem, ↓reduceIte, Nat.reduceEqDiff, Nat.reduceAdd, Nat.reduceMul, Nat.reduceSub, Int.reduceToNat, Nat.reduceBEq, s9], by simp (disch := first | (simp only [go_sem, Bool.and_self, eq_self]; done) | omega | (simp only [gl1, gl2]; omega)) only [go_sem, ↓reduceIte, Nat.reduceEqDiff, Nat.reduceAdd, Nat.reduceMul, Nat.reduceSub, Int.reduceToNat, Nat.reduceBEq, gn], by simp (disch := first | (simp only [go_sem, Bool.and_self, eq_self]; done) | omega | (simp only [gl1, gl2]; omega)) only [go_sem, ↓reduceIte, Nat.reduceEqDiff, Nat.reduceAdd, Nat.reduceMul, Nat.reduceSub, Int.reduceToNat, Nat.reduceBEq, g0, n0H], by simp (disch := first | (simp only [go_sem, Bool.and_self, eq_self]; done) | omega | (simp only [gl1, gl2]; omega)) only [go_sem, ↓reduceIte, Nat.reduceEqDiff, Nat.reduceAdd, Nat.reduceMul, Nat.reduceSub, Int.reduceToNat, Nat.reduceBEq, g1, n1H], by simp (disch := first | (simp only [go_sem, Bool.and_self, eq_self]; done) | omega | (simp only [gl1, gl2]; omega)) only [go_sem, ↓reduceIte, Nat.reduceEqDiff, Nat.reduceAdd, Nat.reduceMul, Nat.reduceSub, Int.reduceToNat, Nat.reduceBEq], fun id h2 h3 => ?_⟩
        simp (disch := first | (simp only [go_sem, Bool.and_self, eq_self]; done) | omega | (simp only [gl1, gl2]; omega)) only [go_sem, ↓reduceIte, Nat.reduceEqDiff, Nat.reduceAdd, Nat.reduceMul, Nat.reduceSub, Int.reduceToNat, Nat.reduceBEq, show ¬ id = H by omega]
        exact go id h2 h3
      · rintro st g ⟨s1, s2, s5, s7, s8, s6, s9, gn, g0, g1, gH, go⟩
        have hwb := C.wb hi1 hi1
        have e1' : vecA (setV (fun k => - nth (nth nx i) k) i (- nth (nth nx i) i + 4)) n = vecA (M i) n := vecA_congr fun k hk => by
          unfold setV
          rw [hMi k hk]
          by_cases hki : k = i
          · rw [if_pos hki, if_pos hki, hki]
            show - nth (nth nx i) i + 4 = 4 - nth (nth nx i) i
            generalize nth (nth nx i) i = z
            omega
          · rw [if_neg hki, if_neg hki]
            show - nth (nth nx i) k = 0 - nth (nth nx i) k
            omega
        have e2' : vecA (setV (fun k => if k < i then M k n else 0) i (-4 * nth cost i)) n = vecA (fun k => if k < i + 1 then M k n else 0) n := vecA_congr fun j hj => by
          unfold setV
          by_cases hji : j = i
          · subst hji; rw [if_pos rfl, if_pos (by omega), hM]; unfold eqM; rw [hr]; simp [hn]
          · have : (j < i) ↔ (j < i + 1) := by omega
            simp [hji, this]
        simp (disch := first | (simp only [go_sem, Bool.and_self, eq_self]; done) | omega | (simp only [gl1, gl2]; omega)) only [go_sem, ↓reduceIte, Nat.reduceEqDiff, Nat.reduceAdd, Nat.reduceMul, Nat.reduceSub, Int.reduceToNat, Nat.reduceBEq, s1, s2, s5, s7, s8, s6, s9, hlt, hin', hic, hic', g0, g1, gH, n1H, n1H', n0H, n0H', e1', e2', List.drop_succ_cons]
        refine ⟨gn, fun id h2 h3 => ?_⟩
        rw [if_neg (by omega), if_neg (by omega)]
        exact go id h2 h3
    · rintro st g ⟨s1, s2, s5, s7, s8, s6, s9, gn, g0, g1, gH, go⟩
      have hse := seal_vec (h := g) gH
      have ov2 : OwnGe 2 (e1 LI) 1 (g.put H (some (.cells true true (vecA (M i) n)))) v ((List.range i).map R) := ov.mono (by show h.nx ≤ g.nx; omega) fun id h2 h3 => by
        rw [put_bl, if_neg (by omega)]; exact go id h2 (by omega)
      have hRi : (List.range n).map (M i) = R i := by rw [hR]
      rw [hRi] at hse
      have hbs := bsB_one (P := Try.prog) 23 _ (LI (R i)) .nil _ isz23 izero23 rfl rfl rfl hse rfl rfl (pure_L _)
      have happ := app_one (P := Try.prog) ov2.own 23 24 .nil (R i) isz23 ibytes23 izero23 rfl (by simp; omega) (by simp; omega)
      have l0 : (appH (g.put H (some (.cells true true (vecA (M i) n)))) v (((List.range i).map R ++ [R i]).flatMap (e1 LI))).bl 0 = some (.cells false false [LLI nx, LI pay, LI cost]) := by
        rw [ov2.low (by decide) (by show 0 < g.nx; omega), put_bl, if_neg (by omega)]; exact g0
      have l1 : (appH (g.put H (some (.cells true true (vecA (M i) n)))) v (((List.range i).map R ++ [R i]).flatMap (e1 LI))).bl 1 = some (.cells false true (vecA (fun k => if k < i + 1 then M k n else 0) n)) := by
        rw [ov2.low (by decide) (by show 1 < g.nx; omega), put_bl, if_neg (by omega)]; exact g1
      have ln : (appH (g.put H (some (.cells true true (vecA (M i) n)))) v (((List.range i).map R ++ [R i]).flatMap (e1 LI))).nx = H + 2 := by rw [appH_nx]; show g.nx + 1 = _; omega
      have lo : OwnGe 2 (e1 LI) 1 (appH (g.put H (some (.cells true true (vecA (M i) n)))) v (((List.range i).map R ++ [R i]).flatMap (e1 LI))) (appV (g.put H (some (.cells true true (vecA (M i) n)))) ((List.range i).map R ++ [R i]).length 1) ((List.range (i + 1)).map R) := by
        rw [← rows_snoc]
        exact OwnGe.app _ (by show 2 ≤ g.nx; omega) _
      generalize appH (g.put H (some (.cells true true (vecA (M i) n)))) v (((List.range i).map R ++ [R i]).flatMap (e1 LI)) = G at *
      generalize appV (g.put H (some (.cells true true (vecA (M i) n)))) ((List.range i).map R ++ [R i]).length 1 = u at *
      simp (disch := first | (simp only [go_sem, Bool.and_self, eq_self]; done) | omega | (simp only [gl1, gl2]; omega)) only [go_sem, ↓reduceIte, Nat.reduceEqDiff, Nat.reduceAdd, Nat.reduceMul, Nat.reduceSub, Int.reduceToNat, Nat.reduceBEq, s1, s2, s5, s7, s8, s6, s9, hbs, happ]
      rw [ForK_normal]
      exact ⟨hlt, by simp (disch := first | (simp only [go_sem, Bool.and_self, eq_self]; done) | omega | (simp only [gl1, gl2]; omega)) only [go_sem, ↓reduceIte, Nat.reduceEqDiff, Nat.reduceAdd, Nat.reduceMul, Nat.reduceSub, Int.reduceToNat, Nat.reduceBEq, s8], by simp (disch := first | (simp only [go_sem, Bool.and_self, eq_self]; done) | omega | (simp only [gl1, gl2]; omega)) only [go_sem, ↓reduceIte, Nat.reduceEqDiff, Nat.reduceAdd, Nat.reduceMul, Nat.reduceSub, Int.reduceToNat, Nat.reduceBEq, s1], by simp (disch := first | (simp only [go_sem, Bool.and_self, eq_self]; done) | omega | (simp only [gl1, gl2]; omega)) only [go_sem, ↓reduceIte, Nat.reduceEqDiff, Nat.reduceAdd, Nat.reduceMul, Nat.reduceSub, Int.reduceToNat, Nat.reduceBEq, s2], by simp (disch := first | (simp only [go_sem, Bool.and_self, eq_self]; done) | omega | (simp only [gl1, gl2]; omega)) only [go_sem, ↓reduceIte, Nat.reduceEqDiff, Nat.reduceAdd, Nat.reduceMul, Nat.reduceSub, Int.reduceToNat, Nat.reduceBEq, s5], by simp (disch := first | (simp only [go_sem, Bool.and_self, eq_self]; done) | omega | (simp only [gl1, gl2]; omega)) only [go_sem, ↓reduceIte, Nat.reduceEqDiff, Nat.reduceAdd, Nat.reduceMul, Nat.reduceSub, Int.reduceToNat, Nat.reduceBEq, s7], by omega, l0, l1, _, by simp (disch := first | (simp only [go_sem, Bool.and_self, eq_self]; done) | omega | (simp only [gl1, gl2]; omega)) only [go_sem, ↓reduceIte, Nat.reduceEqDiff, Nat.reduceAdd, Nat.reduceMul, Nat.reduceSub, Int.reduceToNat, Nat.reduceBEq], lo⟩
  · rintro st h ⟨s2, s5, s7, hnx, b1, v, s6, ov⟩
    have hRn : ∀ i, i < n → nth ((List.range n).map R) i = R i := fun i hi => nth_map_range _ _ _ hi
    have hRl : ∀ i, i < n → (R i).length = n := fun i hi => by rw [hR]; simp
    have hRv : ∀ i j, i < n → j < n → nth (R i) j = M i j := fun i j hi hj => by rw [hR]; exact nth_map_range _ _ _ hj
    have S := sys_of C.chn hs
    have hM' : eqM nx.length (fun i j => nth (nth nx i) j) (fun i => nth pay i) (fun i => nth cost i) (ruleB (xOf nx.length l)) = M := hM.symm
    rw [hM', ← hn] at S
    have hdne := S.det_ne (by omega)
    have hdB := S.dB
    have hbE := bE6 hn6
    rw [← hn] at hbE
    have hsq : sqM ((List.range n).map R) n := ⟨by simp, fun i hi => by rw [hRn i hi, hRl i hi], fun i hi => by
      have h1 := S.B i hi
      have h2 := sumN_congr (f := fun c => absI (nth (nth ((List.range n).map R) i) c)) (g := fun c => absI (M i c)) (n := n) fun c hc => by rw [hRn i hi, hRv i c hi hc]
      rw [h2]; omega⟩
    have c58 := f58_con n (by omega) _ hsq
    rw [det_congr (N := M) fun i j hi hj => by show nth (nth _ i) j = _; rw [hRn i hi, hRv i j hi hj]] at c58
    have k58 := fun h h' K => ConW_num (h := h) (h' := h') (K := K) c58 rfl
    obtain ⟨g0, hse, _⟩ := sealA_Own ov.own
    -- the list of rows, from now on
    obtain ⟨A, hA2, hv, hAn, bA⟩ : ∃ A, 2 ≤ A ∧ v = .sl A 0 n 1 ∧ A < h.nx ∧ h.bl A = some (.cells false true (((List.range n).map R).flatMap (e1 LI))) := by
      rcases ov with ⟨_, e⟩ | ⟨A, h1, h2, h3, h4⟩
      · have := congrArg List.length e; simp at this; omega
      · exact ⟨A, h1, by rw [h2]; simp, h3, h4⟩
    obtain ⟨D, hD⟩ : ∃ D, D = det n M := ⟨_, rfl⟩
    rw [← hD] at k58 hdne hdB
    simp (disch := first | (simp only [go_sem, Bool.and_self, eq_self]; done) | omega | (simp only [gl1, gl2]; omega)) only [go_sem, ↓reduceIte, Nat.reduceEqDiff, Nat.reduceAdd, Nat.reduceMul, Nat.reduceSub, Int.reduceToNat, Nat.reduceBEq, s2, s5, s6, s7, hse, k58]
    obtain ⟨fr, hfr⟩ : ∃ fr : Nat → Int × Int, fr = fun i => rdP (VN nx.length (wF nx) (pF pay) (pF cost) (ruleB (xOf nx.length l)) i) (DN nx.length (wF nx) (pF pay) (pF cost) (ruleB (xOf nx.length l))) := ⟨_, rfl⟩
    have hval : valL nx pay cost (xOf nx.length l) = (List.range n).map fr := by rw [hfr, valL, hn]
    obtain ⟨B, hB⟩ : ∃ B, B = h.nx := ⟨_, rfl⟩
    refine WP_cut (fun st h => ∃ v, st 12 = v ∧ Go.Am.Own eP 2 h v ((List.range n).map fr)) ?_ ?_
    · refine WP_for 13 n (fun k st h => st 5 = I n ∧ st 6 = .sl A 0 n 1 ∧ st 7 = .sl 1 0 n 1 ∧ st 11 = I D ∧ B ≤ h.nx ∧ h.bl 1 = some (.cells false true (vecA (fun i => M i n) n)) ∧ h.bl A = some (.cells false true (((List.range n).map R).flatMap (e1 LI))) ∧ ∃ u, st 12 = u ∧ OwnGe B eP 2 h u ((List.range k).map fr)) (by simp (disch := first | (simp only [go_sem, Bool.and_self, eq_self]; done) | omega | (simp only [gl1, gl2]; omega)) only [go_sem, ↓reduceIte, Nat.reduceEqDiff, Nat.reduceAdd, Nat.reduceMul, Nat.reduceSub, Int.reduceToNat, Nat.reduceBEq])
        ⟨by simp (disch := first | (simp only [go_sem, Bool.and_self, eq_self]; done) | omega | (simp only [gl1, gl2]; omega)) only [go_sem, ↓reduceIte, Nat.reduceEqDiff, Nat.reduceAdd, Nat.reduceMul, Nat.reduceSub, Int.reduceToNat, Nat.reduceBEq, s5], by simp (disch := first | (simp only [go_sem, Bool.and_self, eq_self]; done) | omega | (simp only [gl1, gl2]; omega)) only [go_sem, ↓reduceIte, Nat.reduceEqDiff, Nat.reduceAdd, Nat.reduceMul, Nat.reduceSub, Int.reduceToNat, Nat.reduceBEq, s6, hv], by simp (disch := first | (simp only [go_sem, Bool.and_self, eq_self]; done) | omega | (simp only [gl1, gl2]; omega)) only [go_sem, ↓reduceIte, Nat.reduceEqDiff, Nat.reduceAdd, Nat.reduceMul, Nat.reduceSub, Int.reduceToNat, Nat.reduceBEq, s7], by simp (disch := first | (simp only [go_sem, Bool.and_self, eq_self]; done) | omega | (simp only [gl1, gl2]; omega)) only [go_sem, ↓reduceIte, Nat.reduceEqDiff, Nat.reduceAdd, Nat.reduceMul, Nat.reduceSub, Int.reduceToNat, Nat.reduceBEq], by omega, b1, bA, .nil, by simp (disch := first | (simp only [go_sem, Bool.and_self, eq_self]; done) | omega | (simp only [gl1, gl2]; omega)) only [go_sem, ↓reduceIte, Nat.reduceEqDiff, Nat.reduceAdd, Nat.reduceMul, Nat.reduceSub, Int.reduceToNat, Nat.reduceBEq], .inl ⟨rfl, rfl⟩⟩ ?_
      rintro k st h hk s13 ⟨s5, s6, s7, s11, hBn, b1, bA, u, s12, ou⟩
      by_cases hkn : k < n
      case neg =>
        have hke : k = n := by omega
        subst hke
        simp (disch := first | (simp only [go_sem, Bool.and_self, eq_self]; done) | omega | (simp only [gl1, gl2]; omega)) only [go_sem, ↓reduceIte, Nat.reduceEqDiff, Nat.reduceAdd, Nat.reduceMul, Nat.reduceSub, Int.reduceToNat, Nat.reduceBEq, s5, s6, s7, s11, s12, s13, hkn]
        exact ⟨_, rfl, ou.own⟩
      have hkn' : (k : Int) < n := by omega
      simp (disch := first | (simp only [go_sem, Bool.and_self, eq_self]; done) | omega | (simp only [gl1, gl2]; omega)) only [go_sem, ↓reduceIte, Nat.reduceEqDiff, Nat.reduceAdd, Nat.reduceMul, Nat.reduceSub, Int.reduceToNat, Nat.reduceBEq, s5, s6, s7, s11, s12, s13, hkn]
      -- the matrix with a column put in
      obtain ⟨Q, hQ⟩ : ∃ Q : Nat → List Int, Q = fun i => (List.range n).map (setV (M i) k (M i n)) := ⟨_, rfl⟩
      obtain ⟨B2, hB2⟩ : ∃ B2, B2 = h.nx := ⟨_, rfl⟩
      refine WP_cut (fun st g => st 5 = I n ∧ st 6 = .sl A 0 n 1 ∧ st 7 = .sl 1 0 n 1 ∧ st 11 = I D ∧ st 12 = u ∧ st 13 = I k ∧ B2 ≤ g.nx ∧ (∀ id, id < B2 → g.bl id = h.bl id) ∧ ∃ y, st 14 = y ∧ OwnGe B2 (e1 LI) 1 g y ((List.range n).map Q)) ?_ ?_
      · refine WP_for 15 n (fun i st g => st 5 = I n ∧ st 6 = .sl A 0 n 1 ∧ st 7 = .sl 1 0 n 1 ∧ st 11 = I D ∧ st 12 = u ∧ st 13 = I k ∧ B2 ≤ g.nx ∧ (∀ id, id < B2 → g.bl id = h.bl id) ∧ ∃ y, st 14 = y ∧ OwnGe B2 (e1 LI) 1 g y ((List.range i).map Q)) (by simp (disch := first | (simp only [go_sem, Bool.and_self, eq_self]; done) | omega | (simp only [gl1, gl2]; omega)) only [go_sem, ↓reduceIte, Nat.reduceEqDiff, Nat.reduceAdd, Nat.reduceMul, Nat.reduceSub, Int.reduceToNat, Nat.reduceBEq])
          ⟨by simp (disch := first | (simp only [go_sem, Bool.and_self, eq_self]; done) | omega | (simp only [gl1, gl2]; omega)) only [go_sem, ↓reduceIte, Nat.reduceEqDiff, Nat.reduceAdd, Nat.reduceMul, Nat.reduceSub, Int.reduceToNat, Nat.reduceBEq, s5], by simp (disch := first | (simp only [go_sem, Bool.and_self, eq_self]; done) | omega | (simp only [gl1, gl2]; omega)) only [go_sem, ↓reduceIte, Nat.reduceEqDiff, Nat.reduceAdd, Nat.reduceMul, Nat.reduceSub, Int.reduceToNat, Nat.reduceBEq, s6], by simp (disch := first | (simp only [go_sem, Bool.and_self, eq_self]; done) | omega | (simp only [gl1, gl2]; omega)) only [go_sem, ↓reduceIte, Nat.reduceEqDiff, Nat.reduceAdd, Nat.reduceMul, Nat.reduceSub, Int.reduceToNat, Nat.reduceBEq, s7], by simp (disch := first | (simp only [go_sem, Bool.and_self, eq_self]; done) | omega | (simp only [gl1, gl2]; omega)) only [go_sem, ↓reduceIte, Nat.reduceEqDiff, Nat.reduceAdd, Nat.reduceMul, Nat.reduceSub, Int.reduceToNat, Nat.reduceBEq, s11], by simp (disch := first | (simp only [go_sem, Bool.and_self, eq_self]; done) | omega | (simp only [gl1, gl2]; omega)) only [go_sem, ↓reduceIte, Nat.reduceEqDiff, Nat.reduceAdd, Nat.reduceMul, Nat.reduceSub, Int.reduceToNat, Nat.reduceBEq, s12], by simp (disch := first | (simp only [go_sem, Bool.and_self, eq_self]; done) | omega | (simp only [gl1, gl2]; omega)) only [go_sem, ↓reduceIte, Nat.reduceEqDiff, Nat.reduceAdd, Nat.reduceMul, Nat.reduceSub, Int.reduceToNat, Nat.reduceBEq, s13], by omega, fun _ _ => rfl, .nil, by simp (disch := first | (simp only [go_sem, Bool.and_self, eq_self]; done) | omega | (simp only [gl1, gl2]; omega)) only [go_sem, ↓reduceIte, Nat.reduceEqDiff, Nat.reduceAdd, Nat.reduceMul, Nat.reduceSub, Int.reduceToNat, Nat.reduceBEq], .inl ⟨rfl, rfl⟩⟩ ?_
        rintro i st g hi s15 ⟨s5, s6, s7, s11, s12, s13, hgn, hgo, y, s14, oy⟩
        by_cases hin : i < n
        case neg =>
          have hie : i = n := by omega
          subst hie
          simp (disch := first | (simp only [go_sem, Bool.and_self, eq_self]; done) | omega | (simp only [gl1, gl2]; omega)) only [go_sem, ↓reduceIte, Nat.reduceEqDiff, Nat.reduceAdd, Nat.reduceMul, Nat.reduceSub, Int.reduceToNat, Nat.reduceBEq, s5, s6, s7, s11, s12, s13, s14, s15, hin]
          exact ⟨hgn, hgo, _, rfl, oy⟩
        have hin' : (i : Int) < n := by omega
        have gA : g.bl A = some (.cells false true (((List.range n).map R).flatMap (e1 LI))) := (hgo A (by omega)).trans bA
        have g1 : g.bl 1 = some (.cells false true (vecA (fun i => M i n) n)) := (hgo 1 (by omega)).trans b1
        have hgA : (((List.range n).map R).flatMap (e1 LI))[i]? = some (LI (R i)) := by
          rw [flat_get _ _ _ (by simp; omega), hRn i hin]
        have happ1 := app_nil (P := Try.prog) (h := g) (f := e1 I) 3 8 (I 0) (LI (R i)) (R i) isz3 ibytes3 izero3 rfl (cellsOf_L _ _) (lenA_L _ _) (by rw [hRl i hin]; omega) (by rw [hRl i hin]; omega)
        have hRf : (R i).flatMap (e1 I) = vecA (M i) n := by rw [hR, vecA_flat]
        rw [hRl i hin, hRf] at happ1
        obtain ⟨J, hJ⟩ : ∃ J, J = g.nx := ⟨_, rfl⟩
        have nJ1 : ¬ 1 = J := by omega
        have nJA : ¬ A = J := by omega
        -- the row once it is sealed
        obtain ⟨G, hG⟩ : ∃ G, G = (g.alloc (.cells false true (vecA (M i) n))).put J (some (.cells false true (vecA (setV (M i) k (M i n)) n))) := ⟨_, rfl⟩
        have hGJ : G.bl J = some (.cells false true (vecA (setV (M i) k (M i n)) n)) := by rw [hG, put_bl, if_pos rfl]
        have hGn : G.nx = J + 1 := by rw [hG, hJ]; rfl
        have hGo : ∀ id, id < J → G.bl id = g.bl id := fun id hid => by rw [hG, put_bl, if_neg (by omega), alloc_bl, if_neg (by omega)]
        have hse := seal_vec (h := G) hGJ
        have hQi : (List.range n).map (setV (M i) k (M i n)) = Q i := by rw [hQ]
        rw [hQi] at hse
        obtain ⟨G2, hG2⟩ : ∃ G2, G2 = G.put J (some (.cells true true (vecA (setV (M i) k (M i n)) n))) := ⟨_, rfl⟩
        rw [← hG2] at hse
        have hG2n : G2.nx = J + 1 := by rw [hG2]; exact hGn
        have hG2o : ∀ id, id < J → G2.bl id = g.bl id := fun id hid => by rw [hG2, put_bl, if_neg (by omega)]; exact hGo id hid
        have oy2 : OwnGe B2 (e1 LI) 1 G2 y ((List.range i).map Q) := oy.mono (by omega) fun id _ h3 => hG2o id (by omega)
        have hbs := bsB_one (P := Try.prog) 23 (.sl J 0 n 1) (LI (Q i)) .nil G2 isz23 izero23 rfl rfl rfl hse rfl rfl (pure_L _)
        have happ := app_one (P := Try.prog) oy2.own 23 24 .nil (Q i) isz23 ibytes23 izero23 rfl (by simp; omega) (by simp; omega)
        have ln : (appH G2 y (((List.range i).map Q ++ [Q i]).flatMap (e1 LI))).nx = J + 2 := by rw [appH_nx]; omega
        have lo : OwnGe B2 (e1 LI) 1 (appH G2 y (((List.range i).map Q ++ [Q i]).flatMap (e1 LI))) (appV G2 ((List.range i).map Q ++ [Q i]).length 1) ((List.range (i + 1)).map Q) := by
          rw [← rows_snoc]
          exact OwnGe.app _ (by omega) _
        have ll : ∀ id, id < B2 → (appH G2 y (((List.range i).map Q ++ [Q i]).flatMap (e1 LI))).bl id = h.bl id := fun id hid => by
          rw [oy2.low hid (by omega), hG2o id (by omega)]; exact hgo id hid
        generalize appH G2 y (((List.range i).map Q ++ [Q i]).flatMap (e1 LI)) = G3 at *
        generalize appV G2 ((List.range i).map Q ++ [Q i]).length 1 = y3 at *
        simp (disch := first | (simp only [go_sem, Bool.and_self, eq_self]; done) | omega | (simp only [gl1, gl2]; omega)) only [go_sem, ↓reduceIte, Nat.reduceEqDiff, Nat.reduceAdd, Nat.reduceMul, Nat.reduceSub, Int.reduceToNat, Nat.reduceBEq, s5, s6, s7, s11, s12, s13, s14, s15, hin, hin', hkn', gA, g1, hgA, happ1, ← hJ, nJ1, nJA, ← hG, hbs, happ]
        rw [ForK_normal]
        exact ⟨hin, by simp (disch := first | (simp only [go_sem, Bool.and_self, eq_self]; done) | omega | (simp only [gl1, gl2]; omega)) only [go_sem, ↓reduceIte, Nat.reduceEqDiff, Nat.reduceAdd, Nat.reduceMul, Nat.reduceSub, Int.reduceToNat, Nat.reduceBEq, s15], by simp (disch := first | (simp only [go_sem, Bool.and_self, eq_self]; done) | omega | (simp only [gl1, gl2]; omega)) only [go_sem, ↓reduceIte, Nat.reduceEqDiff, Nat.reduceAdd, Nat.reduceMul, Nat.reduceSub, Int.reduceToNat, Nat.reduceBEq, s5], by simp (disch := first | (simp only [go_sem, Bool.and_self, eq_self]; done) | omega | (simp only [gl1, gl2]; omega)) only [go_sem, ↓reduceIte, Nat.reduceEqDiff, Nat.reduceAdd, Nat.reduceMul, Nat.reduceSub, Int.reduceToNat, Nat.reduceBEq, s6], by simp (disch := first | (simp only [go_sem, Bool.and_self, eq_self]; done) | omega | (simp only [gl1, gl2]; omega)) only [go_sem, ↓reduceIte, Nat.reduceEqDiff, Nat.reduceAdd, Nat.reduceMul, Nat.reduceSub, Int.reduceToNat, Nat.reduceBEq, s7], by simp (disch := first | (simp only [go_sem, Bool.and_self, eq_self]; done) | omega | (simp only [gl1, gl2]; omega)) only [go_sem, ↓reduceIte, Nat.reduceEqDiff, Nat.reduceAdd, Nat.reduceMul, Nat.reduceSub, Int.reduceToNat, Nat.reduceBEq, s11], by simp (disch := first | (simp only [go_sem, Bool.and_self, eq_self]; done) | omega | (simp only [gl1, gl2]; omega)) only [go_sem, ↓reduceIte, Nat.reduceEqDiff, Nat.reduceAdd, Nat.reduceMul, Nat.reduceSub, Int.reduceToNat, Nat.reduceBEq, s12], by simp (disch := first | (simp only [go_sem, Bool.and_self, eq_self]; done) | omega | (simp only [gl1, gl2]; omega)) only [go_sem, ↓reduceIte, Nat.reduceEqDiff, Nat.reduceAdd, Nat.reduceMul, Nat.reduceSub, Int.reduceToNat, Nat.reduceBEq, s13], by omega, ll, _, by simp (disch := first | (simp only [go_sem, Bool.and_self, eq_self]; done) | omega | (simp only [gl1, gl2]; omega)) only [go_sem, ↓reduceIte, Nat.reduceEqDiff, Nat.reduceAdd, Nat.reduceMul, Nat.reduceSub, Int.reduceToNat, Nat.reduceBEq], lo⟩
      · rintro st g ⟨s5, s6, s7, s11, s12, s13, hgn, hgo, y, s14, oy⟩
        obtain ⟨gs, hse2, _⟩ := sealA_Own oy.own
        have hQn : ∀ i, i < n → nth ((List.range n).map Q) i = Q i := fun i hi => nth_map_range _ _ _ hi
        have hQv : ∀ i j, i < n → j < n → nth (Q i) j = setV (M i) k (M i n) j := fun i j hi hj => by rw [hQ]; exact nth_map_range _ _ _ hj
        have hsq2 : sqM ((List.range n).map Q) n := ⟨by simp, fun i hi => by rw [hQn i hi, hQ]; simp, fun i hi => by
          have h1 := S.B i hi
          have h3 := S.C i hi
          have h2 := sumN_congr (f := fun c => absI (nth (nth ((List.range n).map Q) i) c)) (g := fun c => absI (setV (M i) k (M i n) c)) (n := n) fun c hc => by rw [hQn i hi, hQv i c hi hc]
          have h4 : sumN (fun c => absI (setV (M i) k (M i n) c)) n ≤ sumN (fun c => absI (M i c) + (if c = k then absI (M i n) else 0)) n := sumN_le fun c hc => by
            unfold setV
            have := absI_nonneg (M i c)
            by_cases hck : c = k
            · rw [if_pos hck, if_pos hck]; omega
            · rw [if_neg hck, if_neg hck]; omega
          rw [sumN_add, sumN_single hkn fun c hc hne => if_neg hne, if_pos rfl] at h4
          rw [h2]; omega⟩
        have c58b := f58_con n (by omega) _ hsq2
        have hdk : det n (matL ((List.range n).map Q)) = solV n M k := det_congr fun i j hi hj => by
          show nth (nth _ i) j = _
          rw [hQn i hi, hQv i j hi hj]; rfl
        rw [hdk] at c58b
        have k58b := fun h h' K => ConW_num (h := h) (h' := h') (K := K) c58b rfl
        have hsB := S.solB hkn
        have hbC := bC6 hn6
        rw [← hn] at hbC
        have k53' := fun h h' K => k53 (h := h) (h' := h') (K := K) (solV n M k) D (by simp only [big]; omega) (by simp only [big]; omega) (by rw [hD] at hdne ⊢; exact hdne)
        have hfk : rdP (solV n M k) D = fr k := by
          rw [hfr]
          show _ = rdP (VN nx.length (wF nx) (pF pay) (pF cost) (ruleB (xOf nx.length l)) k) (DN nx.length (wF nx) (pF pay) (pF cost) (ruleB (xOf nx.length l)))
          unfold VN DN absI
          rw [← hM, ← hn, ← hD]
          by_cases hneg : D < 0
          · rw [if_pos hneg, show ((D.natAbs : Nat) : Int) = -D by omega, rdP_neg (by omega)]
          · rw [if_neg hneg, show ((D.natAbs : Nat) : Int) = D by omega]
        rw [hfk] at k53'
        have hbs2 := fun h => bsB_pair (P := Try.prog) (h := h) 37 (fr k).1 (fr k).2 0 0 isz37 izero37
        have ou2 : OwnGe B eP 2 g u ((List.range k).map fr) := ou.mono (by omega) fun id _ h3 => hgo id (by omega)
        have happ2 := app_pair (P := Try.prog) ou2.own 37 16 (.agg [I 0, I 0]) (fr k).1 (fr k).2 isz37 ibytes37 izero37 rfl (by simp; omega) (by simp; omega)
        have lb1 : (appH g u (((List.range k).map fr ++ [((fr k).1, (fr k).2)]).flatMap eP)).bl 1 = some (.cells false true (vecA (fun i => M i n) n)) := by
          rw [ou2.low (by omega) (by omega), hgo 1 (by omega)]; exact b1
        have lbA : (appH g u (((List.range k).map fr ++ [((fr k).1, (fr k).2)]).flatMap eP)).bl A = some (.cells false true (((List.range n).map R).flatMap (e1 LI))) := by
          rw [ou2.low (by omega) (by omega), hgo A (by omega)]; exact bA
        have lbn : B ≤ (appH g u (((List.range k).map fr ++ [((fr k).1, (fr k).2)]).flatMap eP)).nx := by rw [appH_nx]; omega
        have lbo : OwnGe B eP 2 (appH g u (((List.range k).map fr ++ [((fr k).1, (fr k).2)]).flatMap eP)) (appV g ((List.range k).map fr ++ [((fr k).1, (fr k).2)]).length 2) ((List.range (k + 1)).map fr) := by
          rw [← rows_snoc]
          exact OwnGe.app _ (by omega) _
        generalize appH g u (((List.range k).map fr ++ [((fr k).1, (fr k).2)]).flatMap eP) = G3 at *
        generalize appV g ((List.range k).map fr ++ [((fr k).1, (fr k).2)]).length 2 = u3 at *
        simp (disch := first | (simp only [go_sem, Bool.and_self, eq_self]; done) | omega | (simp only [gl1, gl2]; omega)) only [go_sem, ↓reduceIte, Nat.reduceEqDiff, Nat.reduceAdd, Nat.reduceMul, Nat.reduceSub, Int.reduceToNat, Nat.reduceBEq, s5, s6, s7, s11, s12, s13, s14, hse2, k58b, k53', hbs2, happ2]
        rw [ForK_normal]
        exact ⟨hkn, by simp (disch := first | (simp only [go_sem, Bool.and_self, eq_self]; done) | omega | (simp only [gl1, gl2]; omega)) only [go_sem, ↓reduceIte, Nat.reduceEqDiff, Nat.reduceAdd, Nat.reduceMul, Nat.reduceSub, Int.reduceToNat, Nat.reduceBEq, s13], by simp (disch := first | (simp only [go_sem, Bool.and_self, eq_self]; done) | omega | (simp only [gl1, gl2]; omega)) only [go_sem, ↓reduceIte, Nat.reduceEqDiff, Nat.reduceAdd, Nat.reduceMul, Nat.reduceSub, Int.reduceToNat, Nat.reduceBEq, s5], by simp (disch := first | (simp only [go_sem, Bool.and_self, eq_self]; done) | omega | (simp only [gl1, gl2]; omega)) only [go_sem, ↓reduceIte, Nat.reduceEqDiff, Nat.reduceAdd, Nat.reduceMul, Nat.reduceSub, Int.reduceToNat, Nat.reduceBEq, s6], by simp (disch := first | (simp only [go_sem, Bool.and_self, eq_self]; done) | omega | (simp only [gl1, gl2]; omega)) only [go_sem, ↓reduceIte, Nat.reduceEqDiff, Nat.reduceAdd, Nat.reduceMul, Nat.reduceSub, Int.reduceToNat, Nat.reduceBEq, s7], by simp (disch := first | (simp only [go_sem, Bool.and_self, eq_self]; done) | omega | (simp only [gl1, gl2]; omega)) only [go_sem, ↓reduceIte, Nat.reduceEqDiff, Nat.reduceAdd, Nat.reduceMul, Nat.reduceSub, Int.reduceToNat, Nat.reduceBEq, s11], lbn, lb1, lbA, _, by simp (disch := first | (simp only [go_sem, Bool.and_self, eq_self]; done) | omega | (simp only [gl1, gl2]; omega)) only [go_sem, ↓reduceIte, Nat.reduceEqDiff, Nat.reduceAdd, Nat.reduceMul, Nat.reduceSub, Int.reduceToNat, Nat.reduceBEq], lbo⟩
    · rintro st h ⟨u, s12, ou⟩
      simp (disch := first | (simp only [go_sem, Bool.and_self, eq_self]; done) | omega | (simp only [gl1, gl2]; omega)) only [go_sem, ↓reduceIte, Nat.reduceEqDiff, Nat.reduceAdd, Nat.reduceMul, Nat.reduceSub, Int.reduceToNat, Nat.reduceBEq, s12]
      rw [hn, hval]
      exact export_Own (f := eP) 28 ou
end Go.Proofs.Ytgamcclfdkpcgaa

set_option linter.unusedVariables false
set_option linter.unusedSimpArgs false
set_option maxRecDepth 10000
namespace Go.Proofs.Ytgamcclfdkpcgaa
open Go Go.Am

variable {h h' : Hp} {K : AV → Hp → Prop}

@[go_sem] theorem und89' : Try.prog.underlying 89 = some (.slice 4) := Try.underlying89
/-- A run of bools. -/
def vecB (L : Nat → Bool) (N : Nat) : List AV := (List.range N).map fun k => .bool (L k)
theorem vecB_len (L : Nat → Bool) (N : Nat) : (vecB L N).length = N := by simp [vecB]
@[go_sem] theorem vecB_get (L : Nat → Bool) (N k : Nat) (hk : k < N) : (vecB L N)[k]? = some (.bool (L k)) := by
  rw [vecB, List.getElem?_map, List.getElem?_range hk]; rfl
theorem vecB_congr {f g : Nat → Bool} {N : Nat} (h : ∀ k, k < N → f k = g k) : vecB f N = vecB g N := by
  refine List.map_congr_left fun k hk => ?_
  rw [h k (List.mem_range.1 hk)]
@[go_sem] theorem vecB_store (L : Nat → Bool) (id N k : Nat) (row v : Bool) (hk : k < N) : storeC h id k 1 (some (.cells false row (vecB L N))) [.bool v] = some (.skp, h.put id (some (.cells false row (vecB (setB L k v) N)))) := by
  rw [storeC_one id _ row _ (.bool v) rfl (by rw [vecB_len]; omega)]
  congr 5
  refine List.ext_getElem? fun j => ?_
  rw [List.getElem?_set]
  by_cases hj : j < N
  · by_cases e : k = j
    · subst e
      rw [if_pos rfl, if_pos (by rw [vecB_len]; omega), vecB_get _ _ _ hj]
      simp [setB]
    · rw [if_neg e, vecB_get _ _ _ hj, vecB_get _ _ _ hj]
      simp [setB, Ne.symm e]
  · rw [if_neg (by omega), List.getElem?_eq_none (by rw [vecB_len]; omega), List.getElem?_eq_none (by rw [vecB_len]; omega)]
theorem vecB_false (N : Nat) : (List.replicate N false).flatMap (e1 AV.bool) = vecB (fun _ => false) N := by
  induction N with
  | zero => rfl
  | succ n ih => rw [List.replicate_succ', List.flatMap_append, ih, vecB, vecB, List.range_succ, List.map_append]; rfl

theorem f32_con {nx : List (List Int)} {pay cost : List Int} (C : okC nx pay cost) (l : List Int) (hl : l.length ≤ maxLen) :
    Con Try.prog cfg 32 [chA nx pay cost, LI l] (.bool (sndB nx.length (wF nx) (xOf nx.length l))) := by
  obtain ⟨n, hn⟩ : ∃ n, n = nx.length := ⟨_, rfl⟩
  have hn1 := C.n1
  have hn6 := C.n6
  have hal : ∀ g : Hp, allocB g (some (chA nx pay cost)) = some (.ptr g.nx 0, g.alloc (.cells false false [LLI nx, LI pay, LI cost])) := fun g => allocB_agg _ rfl
  have hmk : ∀ g : Hp, makeB Try.prog g (some (.slice 4)) (.int .i64 (n : Int)) (.int .i64 (n : Int)) = some (.sl g.nx 0 n 1, g.alloc (.cells false true (vecB (fun _ => false) n))) := fun g => by
    have := makeB_bool (P := Try.prog) (h := g) 4 (n : Int) isz4 ibytes4 izero4 (by omega) (by omega)
    rwa [Int.toNat_natCast, vecB_false] at this
  have k57 := fun v h h' K => ConW_num (h := h) (h' := h') (K := K) (f57_con l hl v) rfl
  have CC := C.chn
  rw [← hn] at CC ⊢
  obtain ⟨L0, hL0⟩ : ∃ L0 : Nat → Bool, L0 = fun i : Nat => hasB l (i : Int) || decide (sumN (wF nx i) n < 4) := ⟨_, rfl⟩
  have hLL : Left n (wF nx) (ruleB (xOf n l)) L0 := by
    refine ⟨fun S hS i hi hli => ?_, fun i hi hr => by rw [hL0]; rw [xOf_bit l hi] at hr; simp [hr]⟩
    cases hsi : S i with
    | false => rfl
    | true =>
      obtain ⟨a, b, _⟩ := hS i hi hsi
      rw [xOf_bit l hi] at a
      rw [hL0] at hli
      simp only [a, Bool.false_or, decide_eq_true_eq] at hli
      omega
  have h4 : ∀ i, i < n → L0 i = false → sumN (wF nx i) n = 4 := fun i hi h => by
    rw [hL0] at h
    simp only [Bool.or_eq_false_iff, decide_eq_false_iff_not] at h
    have h1 := CC.w4 i hi
    have h2 : ¬ sumN (fun j => nth (nth nx i) j) n < 4 := h.2
    show sumN (fun j => nth (nth nx i) j) n = 4
    omega
  refine Con_intro Try.func32 rfl ok32 (Nat.le_of_ble_eq_true rfl) rfl ?_
  simp only [Try.f32, Option.getD_some, initSt2]
  simp (disch := first | (simp only [go_sem, Bool.and_self, eq_self]; done) | omega | (simp only [gl1, gl2]; omega)) only [go_sem, ↓reduceIte, Nat.reduceEqDiff, Nat.reduceAdd, Nat.reduceMul, Nat.reduceSub, Int.reduceToNat, Nat.reduceBEq, hal, ← hn, hmk]
  refine WP_cut (fun st h => st 1 = LI l ∧ st 2 = .ptr 0 0 ∧ st 5 = I n ∧ st 6 = .sl 1 0 n 1 ∧ h.nx = 2 ∧ h.bl 0 = some (.cells false false [LLI nx, LI pay, LI cost]) ∧ h.bl 1 = some (.cells false true (vecB L0 n))) ?_ ?_
  · refine WP_for 7 n (fun i st h => st 1 = LI l ∧ st 2 = .ptr 0 0 ∧ st 5 = I n ∧ st 6 = .sl 1 0 n 1 ∧ h.nx = 2 ∧ h.bl 0 = some (.cells false false [LLI nx, LI pay, LI cost]) ∧ h.bl 1 = some (.cells false true (vecB (fun k => if k < i then L0 k else false) n))) (by simp (disch := first | (simp only [go_sem, Bool.and_self, eq_self]; done) | omega | (simp only [gl1, gl2]; omega)) only [go_sem, ↓reduceIte, Nat.reduceEqDiff, Nat.reduceAdd, Nat.reduceMul, Nat.reduceSub, Int.reduceToNat, Nat.reduceBEq])
      ⟨by simp (disch := first | (simp only [go_sem, Bool.and_self, eq_self]; done) | omega | (simp only [gl1, gl2]; omega)) only [go_sem, ↓reduceIte, Nat.reduceEqDiff, Nat.reduceAdd, Nat.reduceMul, Nat.reduceSub, Int.reduceToNat, Nat.reduceBEq], by simp (disch := first | (simp only [go_sem, Bool.and_self, eq_self]; done) | omega | (simp only [gl1, gl2]; omega)) only [go_sem, ↓reduceIte, Nat.reduceEqDiff, Nat.reduceAdd, Nat.reduceMul, Nat.reduceSub, Int.reduceToNat, Nat.reduceBEq], by simp (disch := first | (simp only [go_sem, Bool.and_self, eq_self]; done) | omega | (simp only [gl1, gl2]; omega)) only [go_sem, ↓reduceIte, Nat.reduceEqDiff, Nat.reduceAdd, Nat.reduceMul, Nat.reduceSub, Int.reduceToNat, Nat.reduceBEq, hn], by simp (disch := first | (simp only [go_sem, Bool.and_self, eq_self]; done) | omega | (simp only [gl1, gl2]; omega)) only [go_sem, ↓reduceIte, Nat.reduceEqDiff, Nat.reduceAdd, Nat.reduceMul, Nat.reduceSub, Int.reduceToNat, Nat.reduceBEq], rfl, by simp (disch := first | (simp only [go_sem, Bool.and_self, eq_self]; done) | omega | (simp only [gl1, gl2]; omega)) only [go_sem, ↓reduceIte, Nat.reduceEqDiff, Nat.reduceAdd, Nat.reduceMul, Nat.reduceSub, Int.reduceToNat, Nat.reduceBEq], by simp (disch := first | (simp only [go_sem, Bool.and_self, eq_self]; done) | omega | (simp only [gl1, gl2]; omega)) only [go_sem, ↓reduceIte, Nat.reduceEqDiff, Nat.reduceAdd, Nat.reduceMul, Nat.reduceSub, Int.reduceToNat, Nat.reduceBEq]; rfl⟩ ?_
    rintro i st h hi s7 ⟨s1, s2, s5, s6, hnx, b0, b1⟩
    by_cases hlt : i < n
    case neg =>
      have hie : i = n := by omega
      subst hie
      have he : vecB (fun k => if k < i then L0 k else false) i = vecB L0 i := vecB_congr fun k hk => if_pos hk
      rw [he] at b1
      simp (disch := first | (simp only [go_sem, Bool.and_self, eq_self]; done) | omega | (simp only [gl1, gl2]; omega)) only [go_sem, ↓reduceIte, Nat.reduceEqDiff, Nat.reduceAdd, Nat.reduceMul, Nat.reduceSub, Int.reduceToNat, Nat.reduceBEq, s1, s2, s5, s6, s7, hlt]
      exact ⟨hnx, b0, b1⟩
    have hi1 : i < nx.length := by omega
    have hi1' : (i : Int) < nx.length := by omega
    have hin' : (i : Int) < n := by omega
    have hrow := C.row i hi1
    simp (disch := first | (simp only [go_sem, Bool.and_self, eq_self]; done) | omega | (simp only [gl1, gl2]; omega)) only [go_sem, ↓reduceIte, Nat.reduceEqDiff, Nat.reduceAdd, Nat.reduceMul, Nat.reduceSub, Int.reduceToNat, Nat.reduceBEq, s1, s2, s5, s6, s7, hlt]
    refine WP_cut (fun st h => st 1 = LI l ∧ st 2 = .ptr 0 0 ∧ st 5 = I n ∧ st 6 = .sl 1 0 n 1 ∧ st 7 = I i ∧ st 8 = I (sumN (wF nx i) n) ∧ h.nx = 2 ∧ h.bl 0 = some (.cells false false [LLI nx, LI pay, LI cost]) ∧ h.bl 1 = some (.cells false true (vecB (fun k => if k < i then L0 k else false) n))) ?_ ?_
    · refine WP_for 9 n (fun j st h => st 1 = LI l ∧ st 2 = .ptr 0 0 ∧ st 5 = I n ∧ st 6 = .sl 1 0 n 1 ∧ st 7 = I i ∧ st 8 = I (sumN (wF nx i) j) ∧ h.nx = 2 ∧ h.bl 0 = some (.cells false false [LLI nx, LI pay, LI cost]) ∧ h.bl 1 = some (.cells false true (vecB (fun k => if k < i then L0 k else false) n))) (by simp (disch := first | (simp only [go_sem, Bool.and_self, eq_self]; done) | omega | (simp only [gl1, gl2]; omega)) only [go_sem, ↓reduceIte, Nat.reduceEqDiff, Nat.reduceAdd, Nat.reduceMul, Nat.reduceSub, Int.reduceToNat, Nat.reduceBEq])
        ⟨by simp (disch := first | (simp only [go_sem, Bool.and_self, eq_self]; done) | omega | (simp only [gl1, gl2]; omega)) only [go_sem, ↓reduceIte, Nat.reduceEqDiff, Nat.reduceAdd, Nat.reduceMul, Nat.reduceSub, Int.reduceToNat, Nat.reduceBEq, s1], by simp (disch := first | (simp only [go_sem, Bool.and_self, eq_self]; done) | omega | (simp only [gl1, gl2]; omega)) only [go_sem, ↓reduceIte, Nat.reduceEqDiff, Nat.reduceAdd, Nat.reduceMul, Nat.reduceSub, Int.reduceToNat, Nat.reduceBEq, s2], by simp (disch := first | (simp only [go_sem, Bool.and_self, eq_self]; done) | omega | (simp only [gl1, gl2]; omega)) only [go_sem, ↓reduceIte, Nat.reduceEqDiff, Nat.reduceAdd, Nat.reduceMul, Nat.reduceSub, Int.reduceToNat, Nat.reduceBEq, s5], by simp (disch := first | (simp only [go_sem, Bool.and_self, eq_self]; done) | omega | (simp only [gl1, gl2]; omega)) only [go_sem, ↓reduceIte, Nat.reduceEqDiff, Nat.reduceAdd, Nat.reduceMul, Nat.reduceSub, Int.reduceToNat, Nat.reduceBEq, s6], by simp (disch := first | (simp only [go_sem, Bool.and_self, eq_self]; done) | omega | (simp only [gl1, gl2]; omega)) only [go_sem, ↓reduceIte, Nat.reduceEqDiff, Nat.reduceAdd, Nat.reduceMul, Nat.reduceSub, Int.reduceToNat, Nat.reduceBEq, s7], by simp (disch := first | (simp only [go_sem, Bool.and_self, eq_self]; done) | omega | (simp only [gl1, gl2]; omega)) only [go_sem, ↓reduceIte, Nat.reduceEqDiff, Nat.reduceAdd, Nat.reduceMul, Nat.reduceSub, Int.reduceToNat, Nat.reduceBEq]; rfl, hnx, b0, b1⟩ ?_
      rintro j st h hj s9 ⟨s1, s2, s5, s6, s7, s8, hnx, b0, b1⟩
      by_cases hjn : j < n
      case neg =>
        have hje : j = n := by omega
        subst hje
        simp (disch := first | (simp only [go_sem, Bool.and_self, eq_self]; done) | omega | (simp only [gl1, gl2]; omega)) only [go_sem, ↓reduceIte, Nat.reduceEqDiff, Nat.reduceAdd, Nat.reduceMul, Nat.reduceSub, Int.reduceToNat, Nat.reduceBEq, s1, s2, s5, s6, s7, s8, s9, hjn]
        exact ⟨hnx, b0, b1⟩
      have hjr : j < (nth nx i).length := by omega
      have hjr' : (j : Int) < (nth nx i).length := by omega
      have hwb := C.wb hi1 (show j < nx.length by omega)
      have hsb := sumN_bounds (f := wF nx i) (lo := 0) (hi := 4) (n := j) fun k hk => C.wb hi1 (show k < nx.length by omega)
      have hs1 : sumN (wF nx i) (j + 1) = sumN (wF nx i) j + nth (nth nx i) j := rfl
      simp (disch := first | (simp only [go_sem, Bool.and_self, eq_self]; done) | omega | (simp only [gl1, gl2]; omega)) only [go_sem, ↓reduceIte, Nat.reduceEqDiff, Nat.reduceAdd, Nat.reduceMul, Nat.reduceSub, Int.reduceToNat, Nat.reduceBEq, s1, s2, s5, s6, s7, s8, s9, hjn, hi1, hi1', hjr, hjr', b0]
      rw [ForK_normal]
      exact ⟨hjn, by simp (disch := first | (simp only [go_sem, Bool.and_self, eq_self]; done) | omega | (simp only [gl1, gl2]; omega)) only [go_sem, ↓reduceIte, Nat.reduceEqDiff, Nat.reduceAdd, Nat.reduceMul, Nat.reduceSub, Int.reduceToNat, Nat.reduceBEq, s9], by simp (disch := first | (simp only [go_sem, Bool.and_self, eq_self]; done) | omega | (simp only [gl1, gl2]; omega)) only [go_sem, ↓reduceIte, Nat.reduceEqDiff, Nat.reduceAdd, Nat.reduceMul, Nat.reduceSub, Int.reduceToNat, Nat.reduceBEq, s1], by simp (disch := first | (simp only [go_sem, Bool.and_self, eq_self]; done) | omega | (simp only [gl1, gl2]; omega)) only [go_sem, ↓reduceIte, Nat.reduceEqDiff, Nat.reduceAdd, Nat.reduceMul, Nat.reduceSub, Int.reduceToNat, Nat.reduceBEq, s2], by simp (disch := first | (simp only [go_sem, Bool.and_self, eq_self]; done) | omega | (simp only [gl1, gl2]; omega)) only [go_sem, ↓reduceIte, Nat.reduceEqDiff, Nat.reduceAdd, Nat.reduceMul, Nat.reduceSub, Int.reduceToNat, Nat.reduceBEq, s5], by simp (disch := first | (simp only [go_sem, Bool.and_self, eq_self]; done) | omega | (simp only [gl1, gl2]; omega)) only [go_sem, ↓reduceIte, Nat.reduceEqDiff, Nat.reduceAdd, Nat.reduceMul, Nat.reduceSub, Int.reduceToNat, Nat.reduceBEq, s6], by simp (disch := first | (simp only [go_sem, Bool.and_self, eq_self]; done) | omega | (simp only [gl1, gl2]; omega)) only [go_sem, ↓reduceIte, Nat.reduceEqDiff, Nat.reduceAdd, Nat.reduceMul, Nat.reduceSub, Int.reduceToNat, Nat.reduceBEq, s7], by (rw [hs1]; simp (disch := first | (simp only [go_sem, Bool.and_self, eq_self]; done) | omega | (simp only [gl1, gl2]; omega)) only [go_sem, ↓reduceIte, Nat.reduceEqDiff, Nat.reduceAdd, Nat.reduceMul, Nat.reduceSub, Int.reduceToNat, Nat.reduceBEq]), hnx, b0, b1⟩
    · rintro st h ⟨s1, s2, s5, s6, s7, s8, hnx, b0, b1⟩
      have hset : ∀ b, L0 i = b → vecB (setB (fun k => if k < i then L0 k else false) i b) n = vecB (fun k => if k < i + 1 then L0 k else false) n := fun b hb => vecB_congr fun k hk => by
        unfold setB
        by_cases hki : k = i
        · subst hki; rw [if_pos rfl, if_pos (by omega), hb]
        · have : (k < i) ↔ (k < i + 1) := by omega
          simp [hki, this]
      have hLi : L0 i = (hasB l i || decide (sumN (wF nx i) n < 4)) := by rw [hL0]
      cases hh : hasB l i with
      | true =>
        have hs := hset true (by rw [hLi, hh]; rfl)
        simp (disch := first | (simp only [go_sem, Bool.and_self, eq_self]; done) | omega | (simp only [gl1, gl2]; omega)) only [go_sem, ↓reduceIte, Nat.reduceEqDiff, Nat.reduceAdd, Nat.reduceMul, Nat.reduceSub, Int.reduceToNat, Nat.reduceBEq, s1, s2, s5, s6, s7, s8, k57, hh, hin', hlt, b1, hs]
        rw [ForK_normal]
        exact ⟨hlt, by simp (disch := first | (simp only [go_sem, Bool.and_self, eq_self]; done) | omega | (simp only [gl1, gl2]; omega)) only [go_sem, ↓reduceIte, Nat.reduceEqDiff, Nat.reduceAdd, Nat.reduceMul, Nat.reduceSub, Int.reduceToNat, Nat.reduceBEq, s7], by simp (disch := first | (simp only [go_sem, Bool.and_self, eq_self]; done) | omega | (simp only [gl1, gl2]; omega)) only [go_sem, ↓reduceIte, Nat.reduceEqDiff, Nat.reduceAdd, Nat.reduceMul, Nat.reduceSub, Int.reduceToNat, Nat.reduceBEq, s1], by simp (disch := first | (simp only [go_sem, Bool.and_self, eq_self]; done) | omega | (simp only [gl1, gl2]; omega)) only [go_sem, ↓reduceIte, Nat.reduceEqDiff, Nat.reduceAdd, Nat.reduceMul, Nat.reduceSub, Int.reduceToNat, Nat.reduceBEq, s2], by simp (disch := first | (simp only [go_sem, Bool.and_self, eq_self]; done) | omega | (simp only [gl1, gl2]; omega)) only [go_sem, ↓reduceIte, Nat.reduceEqDiff, Nat.reduceAdd, Nat.reduceMul, Nat.reduceSub, Int.reduceToNat, Nat.reduceBEq, s5], by simp (disch := first | (simp only [go_sem, Bool.and_self, eq_self]; done) | omega | (simp only [gl1, gl2]; omega)) only [go_sem, ↓reduceIte, Nat.reduceEqDiff, Nat.reduceAdd, Nat.reduceMul, Nat.reduceSub, Int.reduceToNat, Nat.reduceBEq, s6], by simp (disch := first | (simp only [go_sem, Bool.and_self, eq_self]; done) | omega | (simp only [gl1, gl2]; omega)) only [go_sem, ↓reduceIte, Nat.reduceEqDiff, Nat.reduceAdd, Nat.reduceMul, Nat.reduceSub, Int.reduceToNat, Nat.reduceBEq, hnx], by simp (disch := first | (simp only [go_sem, Bool.and_self, eq_self]; done) | omega | (simp only [gl1, gl2]; omega)) only [go_sem, ↓reduceIte, Nat.reduceEqDiff, Nat.reduceAdd, Nat.reduceMul, Nat.reduceSub, Int.reduceToNat, Nat.reduceBEq, b0], by simp (disch := first | (simp only [go_sem, Bool.and_self, eq_self]; done) | omega | (simp only [gl1, gl2]; omega)) only [go_sem, ↓reduceIte, Nat.reduceEqDiff, Nat.reduceAdd, Nat.reduceMul, Nat.reduceSub, Int.reduceToNat, Nat.reduceBEq]⟩
      | false =>
        by_cases hc : sumN (wF nx i) n < 4
        · have hs := hset true (by rw [hLi, hh, decide_eq_true hc]; rfl)
          simp (disch := first | (simp only [go_sem, Bool.and_self, eq_self]; done) | omega | (simp only [gl1, gl2]; omega)) only [go_sem, ↓reduceIte, Nat.reduceEqDiff, Nat.reduceAdd, Nat.reduceMul, Nat.reduceSub, Int.reduceToNat, Nat.reduceBEq, s1, s2, s5, s6, s7, s8, k57, hh, hc, hin', hlt, b1, hs]
          rw [ForK_normal]
          exact ⟨hlt, by simp (disch := first | (simp only [go_sem, Bool.and_self, eq_self]; done) | omega | (simp only [gl1, gl2]; omega)) only [go_sem, ↓reduceIte, Nat.reduceEqDiff, Nat.reduceAdd, Nat.reduceMul, Nat.reduceSub, Int.reduceToNat, Nat.reduceBEq, s7], by simp (disch := first | (simp only [go_sem, Bool.and_self, eq_self]; done) | omega | (simp only [gl1, gl2]; omega)) only [go_sem, ↓reduceIte, Nat.reduceEqDiff, Nat.reduceAdd, Nat.reduceMul, Nat.reduceSub, Int.reduceToNat, Nat.reduceBEq, s1], by simp (disch := first | (simp only [go_sem, Bool.and_self, eq_self]; done) | omega | (simp only [gl1, gl2]; omega)) only [go_sem, ↓reduceIte, Nat.reduceEqDiff, Nat.reduceAdd, Nat.reduceMul, Nat.reduceSub, Int.reduceToNat, Nat.reduceBEq, s2], by simp (disch := first | (simp only [go_sem, Bool.and_self, eq_self]; done) | omega | (simp only [gl1, gl2]; omega)) only [go_sem, ↓reduceIte, Nat.reduceEqDiff, Nat.reduceAdd, Nat.reduceMul, Nat.reduceSub, Int.reduceToNat, Nat.reduceBEq, s5], by simp (disch := first | (simp only [go_sem, Bool.and_self, eq_self]; done) | omega | (simp only [gl1, gl2]; omega)) only [go_sem, ↓reduceIte, Nat.reduceEqDiff, Nat.reduceAdd, Nat.reduceMul, Nat.reduceSub, Int.reduceToNat, Nat.reduceBEq, s6], by simp (disch := first | (simp only [go_sem, Bool.and_self, eq_self]; done) | omega | (simp only [gl1, gl2]; omega)) only [go_sem, ↓reduceIte, Nat.reduceEqDiff, Nat.reduceAdd, Nat.reduceMul, Nat.reduceSub, Int.reduceToNat, Nat.reduceBEq, hnx], by simp (disch := first | (simp only [go_sem, Bool.and_self, eq_self]; done) | omega | (simp only [gl1, gl2]; omega)) only [go_sem, ↓reduceIte, Nat.reduceEqDiff, Nat.reduceAdd, Nat.reduceMul, Nat.reduceSub, Int.reduceToNat, Nat.reduceBEq, b0], by simp (disch := first | (simp only [go_sem, Bool.and_self, eq_self]; done) | omega | (simp only [gl1, gl2]; omega)) only [go_sem, ↓reduceIte, Nat.reduceEqDiff, Nat.reduceAdd, Nat.reduceMul, Nat.reduceSub, Int.reduceToNat, Nat.reduceBEq]⟩
        · have hs := hset false (by rw [hLi, hh, decide_eq_false hc]; rfl)
          simp (disch := first | (simp only [go_sem, Bool.and_self, eq_self]; done) | omega | (simp only [gl1, gl2]; omega)) only [go_sem, ↓reduceIte, Nat.reduceEqDiff, Nat.reduceAdd, Nat.reduceMul, Nat.reduceSub, Int.reduceToNat, Nat.reduceBEq, s1, s2, s5, s6, s7, s8, k57, hh, hc, hin', hlt, b1, hs]
          rw [ForK_normal]
          exact ⟨hlt, by simp (disch := first | (simp only [go_sem, Bool.and_self, eq_self]; done) | omega | (simp only [gl1, gl2]; omega)) only [go_sem, ↓reduceIte, Nat.reduceEqDiff, Nat.reduceAdd, Nat.reduceMul, Nat.reduceSub, Int.reduceToNat, Nat.reduceBEq, s7], by simp (disch := first | (simp only [go_sem, Bool.and_self, eq_self]; done) | omega | (simp only [gl1, gl2]; omega)) only [go_sem, ↓reduceIte, Nat.reduceEqDiff, Nat.reduceAdd, Nat.reduceMul, Nat.reduceSub, Int.reduceToNat, Nat.reduceBEq, s1], by simp (disch := first | (simp only [go_sem, Bool.and_self, eq_self]; done) | omega | (simp only [gl1, gl2]; omega)) only [go_sem, ↓reduceIte, Nat.reduceEqDiff, Nat.reduceAdd, Nat.reduceMul, Nat.reduceSub, Int.reduceToNat, Nat.reduceBEq, s2], by simp (disch := first | (simp only [go_sem, Bool.and_self, eq_self]; done) | omega | (simp only [gl1, gl2]; omega)) only [go_sem, ↓reduceIte, Nat.reduceEqDiff, Nat.reduceAdd, Nat.reduceMul, Nat.reduceSub, Int.reduceToNat, Nat.reduceBEq, s5], by simp (disch := first | (simp only [go_sem, Bool.and_self, eq_self]; done) | omega | (simp only [gl1, gl2]; omega)) only [go_sem, ↓reduceIte, Nat.reduceEqDiff, Nat.reduceAdd, Nat.reduceMul, Nat.reduceSub, Int.reduceToNat, Nat.reduceBEq, s6], by simp (disch := first | (simp only [go_sem, Bool.and_self, eq_self]; done) | omega | (simp only [gl1, gl2]; omega)) only [go_sem, ↓reduceIte, Nat.reduceEqDiff, Nat.reduceAdd, Nat.reduceMul, Nat.reduceSub, Int.reduceToNat, Nat.reduceBEq, hnx], by simp (disch := first | (simp only [go_sem, Bool.and_self, eq_self]; done) | omega | (simp only [gl1, gl2]; omega)) only [go_sem, ↓reduceIte, Nat.reduceEqDiff, Nat.reduceAdd, Nat.reduceMul, Nat.reduceSub, Int.reduceToNat, Nat.reduceBEq, b0], by simp (disch := first | (simp only [go_sem, Bool.and_self, eq_self]; done) | omega | (simp only [gl1, gl2]; omega)) only [go_sem, ↓reduceIte, Nat.reduceEqDiff, Nat.reduceAdd, Nat.reduceMul, Nat.reduceSub, Int.reduceToNat, Nat.reduceBEq]⟩
  rintro st h ⟨s1, s2, s5, s6, hnx, b0, b1⟩
  simp (disch := first | (simp only [go_sem, Bool.and_self, eq_self]; done) | omega | (simp only [gl1, gl2]; omega)) only [go_sem, ↓reduceIte, Nat.reduceEqDiff, Nat.reduceAdd, Nat.reduceMul, Nat.reduceSub, Int.reduceToNat, Nat.reduceBEq, s1, s2, s5, s6]
  refine WP_cut (fun st h => st 1 = LI l ∧ st 2 = .ptr 0 0 ∧ st 5 = I n ∧ st 6 = .sl 1 0 n 1 ∧ ∃ L, h.bl 1 = some (.cells false true (vecB L n)) ∧ Left n (wF nx) (ruleB (xOf n l)) L ∧ stab n (wF nx) L n) ?_ ?_
  · refine WP_loopK (fun m st h => ∃ (g : Bool) (L : Nat → Bool), m = (if g then cntF L + 1 else 0) ∧ st 1 = LI l ∧ st 2 = .ptr 0 0 ∧ st 5 = I n ∧ st 6 = .sl 1 0 n 1 ∧ st 10 = .bool g ∧ h.nx = 2 ∧ h.bl 0 = some (.cells false false [LLI nx, LI pay, LI cost]) ∧ h.bl 1 = some (.cells false true (vecB L n)) ∧ Left n (wF nx) (ruleB (xOf n l)) L ∧ (∀ i, i < n → L0 i = true → L i = true) ∧ (g = false → stab n (wF nx) L n)) (cntF L0 + 1)
      ⟨true, L0, rfl, by simp (disch := first | (simp only [go_sem, Bool.and_self, eq_self]; done) | omega | (simp only [gl1, gl2]; omega)) only [go_sem, ↓reduceIte, Nat.reduceEqDiff, Nat.reduceAdd, Nat.reduceMul, Nat.reduceSub, Int.reduceToNat, Nat.reduceBEq, s1], by simp (disch := first | (simp only [go_sem, Bool.and_self, eq_self]; done) | omega | (simp only [gl1, gl2]; omega)) only [go_sem, ↓reduceIte, Nat.reduceEqDiff, Nat.reduceAdd, Nat.reduceMul, Nat.reduceSub, Int.reduceToNat, Nat.reduceBEq, s2], by simp (disch := first | (simp only [go_sem, Bool.and_self, eq_self]; done) | omega | (simp only [gl1, gl2]; omega)) only [go_sem, ↓reduceIte, Nat.reduceEqDiff, Nat.reduceAdd, Nat.reduceMul, Nat.reduceSub, Int.reduceToNat, Nat.reduceBEq, s5], by simp (disch := first | (simp only [go_sem, Bool.and_self, eq_self]; done) | omega | (simp only [gl1, gl2]; omega)) only [go_sem, ↓reduceIte, Nat.reduceEqDiff, Nat.reduceAdd, Nat.reduceMul, Nat.reduceSub, Int.reduceToNat, Nat.reduceBEq, s6], by simp (disch := first | (simp only [go_sem, Bool.and_self, eq_self]; done) | omega | (simp only [gl1, gl2]; omega)) only [go_sem, ↓reduceIte, Nat.reduceEqDiff, Nat.reduceAdd, Nat.reduceMul, Nat.reduceSub, Int.reduceToNat, Nat.reduceBEq], hnx, b0, b1, hLL, fun _ _ h => h, fun h => by cases h⟩ ?_
    rintro m st h ⟨g, L, rfl, s1, s2, s5, s6, s10, hnx, b0, b1, hL, hsub, hg⟩
    cases g with
    | false =>
      simp (disch := first | (simp only [go_sem, Bool.and_self, eq_self]; done) | omega | (simp only [gl1, gl2]; omega)) only [go_sem, ↓reduceIte, Nat.reduceEqDiff, Nat.reduceAdd, Nat.reduceMul, Nat.reduceSub, Int.reduceToNat, Nat.reduceBEq, s1, s2, s5, s6, s10]
      exact ⟨L, b1, hL, hg rfl⟩
    | true =>
    simp (disch := first | (simp only [go_sem, Bool.and_self, eq_self]; done) | omega | (simp only [gl1, gl2]; omega)) only [go_sem, ↓reduceIte, Nat.reduceEqDiff, Nat.reduceAdd, Nat.reduceMul, Nat.reduceSub, Int.reduceToNat, Nat.reduceBEq, s1, s2, s5, s6, s10]
    refine WP_cut (fun st h => st 1 = LI l ∧ st 2 = .ptr 0 0 ∧ st 5 = I n ∧ st 6 = .sl 1 0 n 1 ∧ h.nx = 2 ∧ h.bl 0 = some (.cells false false [LLI nx, LI pay, LI cost]) ∧ ∃ (g : Bool) (L' : Nat → Bool), st 10 = .bool g ∧ h.bl 1 = some (.cells false true (vecB L' n)) ∧ Left n (wF nx) (ruleB (xOf n l)) L' ∧ (∀ i, i < n → L0 i = true → L' i = true) ∧ (g = true → cntF L' < cntF L) ∧ (g = false → stab n (wF nx) L' n)) ?_ ?_
    · refine WP_for 11 n (fun i st h => st 1 = LI l ∧ st 2 = .ptr 0 0 ∧ st 5 = I n ∧ st 6 = .sl 1 0 n 1 ∧ h.nx = 2 ∧ h.bl 0 = some (.cells false false [LLI nx, LI pay, LI cost]) ∧ ∃ (g : Bool) (L' : Nat → Bool), st 10 = .bool g ∧ h.bl 1 = some (.cells false true (vecB L' n)) ∧ Left n (wF nx) (ruleB (xOf n l)) L' ∧ (∀ i, i < n → L0 i = true → L' i = true) ∧ (g = true → cntF L' < cntF L) ∧ (g = false → L' = L ∧ stab n (wF nx) L i)) (by simp (disch := first | (simp only [go_sem, Bool.and_self, eq_self]; done) | omega | (simp only [gl1, gl2]; omega)) only [go_sem, ↓reduceIte, Nat.reduceEqDiff, Nat.reduceAdd, Nat.reduceMul, Nat.reduceSub, Int.reduceToNat, Nat.reduceBEq])
        ⟨by simp (disch := first | (simp only [go_sem, Bool.and_self, eq_self]; done) | omega | (simp only [gl1, gl2]; omega)) only [go_sem, ↓reduceIte, Nat.reduceEqDiff, Nat.reduceAdd, Nat.reduceMul, Nat.reduceSub, Int.reduceToNat, Nat.reduceBEq, s1], by simp (disch := first | (simp only [go_sem, Bool.and_self, eq_self]; done) | omega | (simp only [gl1, gl2]; omega)) only [go_sem, ↓reduceIte, Nat.reduceEqDiff, Nat.reduceAdd, Nat.reduceMul, Nat.reduceSub, Int.reduceToNat, Nat.reduceBEq, s2], by simp (disch := first | (simp only [go_sem, Bool.and_self, eq_self]; done) | omega | (simp only [gl1, gl2]; omega)) only [go_sem, ↓reduceIte, Nat.reduceEqDiff, Nat.reduceAdd, Nat.reduceMul, Nat.reduceSub, Int.reduceToNat, Nat.reduceBEq, s5], by simp (disch := first | (simp only [go_sem, Bool.and_self, eq_self]; done) | omega | (simp only [gl1, gl2]; omega)) only [go_sem, ↓reduceIte, Nat.reduceEqDiff, Nat.reduceAdd, Nat.reduceMul, Nat.reduceSub, Int.reduceToNat, Nat.reduceBEq, s6], hnx, b0, false, L, by simp (disch := first | (simp only [go_sem, Bool.and_self, eq_self]; done) | omega | (simp only [gl1, gl2]; omega)) only [go_sem, ↓reduceIte, Nat.reduceEqDiff, Nat.reduceAdd, Nat.reduceMul, Nat.reduceSub, Int.reduceToNat, Nat.reduceBEq], b1, hL, hsub, fun h => (by cases h), fun _ => ⟨rfl, fun i hi => by omega⟩⟩ ?_
      rintro i st h hi s11 ⟨s1, s2, s5, s6, hnx, b0, g, L', s10, b1, hL', hsub', hg1, hg2⟩
      by_cases hlt : i < n
      case neg =>
        have hie : i = n := by omega
        subst hie
        simp (disch := first | (simp only [go_sem, Bool.and_self, eq_self]; done) | omega | (simp only [gl1, gl2]; omega)) only [go_sem, ↓reduceIte, Nat.reduceEqDiff, Nat.reduceAdd, Nat.reduceMul, Nat.reduceSub, Int.reduceToNat, Nat.reduceBEq, s1, s2, s5, s6, s10, s11, hlt]
        exact ⟨hnx, b0, g, L', rfl, b1, hL', hsub', hg1, fun h => by obtain ⟨e, s⟩ := hg2 h; rw [e]; exact s⟩
      have hi1 : i < nx.length := by omega
      have hi1' : (i : Int) < nx.length := by omega
      have hin' : (i : Int) < n := by omega
      have hi6 : i < 6 := by omega
      have hrow := C.row i hi1
      have hle : cntF L' ≤ cntF L := by
        cases g with
        | true => exact Nat.le_of_lt (hg1 rfl)
        | false => rw [(hg2 rfl).1]; exact Nat.le_refl _
      simp (disch := first | (simp only [go_sem, Bool.and_self, eq_self]; done) | omega | (simp only [gl1, gl2]; omega)) only [go_sem, ↓reduceIte, Nat.reduceEqDiff, Nat.reduceAdd, Nat.reduceMul, Nat.reduceSub, Int.reduceToNat, Nat.reduceBEq, s1, s2, s5, s6, s10, s11, hlt]
      refine WP_cut (fun st h => st 1 = LI l ∧ st 2 = .ptr 0 0 ∧ st 5 = I n ∧ st 6 = .sl 1 0 n 1 ∧ st 11 = I i ∧ h.nx = 2 ∧ h.bl 0 = some (.cells false false [LLI nx, LI pay, LI cost]) ∧
          ((st 10 = .bool g ∧ h.bl 1 = some (.cells false true (vecB L' n)) ∧ (L' i = true ∨ leads (wF nx) L' i n = false)) ∨ (st 10 = .bool true ∧ L' i = false ∧ leads (wF nx) L' i n = true ∧ h.bl 1 = some (.cells false true (vecB (setB L' i true) n))))) ?_ ?_
      · refine WP_for 12 n (fun j st h => st 1 = LI l ∧ st 2 = .ptr 0 0 ∧ st 5 = I n ∧ st 6 = .sl 1 0 n 1 ∧ st 11 = I i ∧ h.nx = 2 ∧ h.bl 0 = some (.cells false false [LLI nx, LI pay, LI cost]) ∧
            ((st 10 = .bool g ∧ h.bl 1 = some (.cells false true (vecB L' n)) ∧ leads (wF nx) L' i j = false) ∨ (st 10 = .bool true ∧ L' i = false ∧ leads (wF nx) L' i n = true ∧ h.bl 1 = some (.cells false true (vecB (setB L' i true) n))))) (by simp (disch := first | (simp only [go_sem, Bool.and_self, eq_self]; done) | omega | (simp only [gl1, gl2]; omega)) only [go_sem, ↓reduceIte, Nat.reduceEqDiff, Nat.reduceAdd, Nat.reduceMul, Nat.reduceSub, Int.reduceToNat, Nat.reduceBEq])
          ⟨by simp (disch := first | (simp only [go_sem, Bool.and_self, eq_self]; done) | omega | (simp only [gl1, gl2]; omega)) only [go_sem, ↓reduceIte, Nat.reduceEqDiff, Nat.reduceAdd, Nat.reduceMul, Nat.reduceSub, Int.reduceToNat, Nat.reduceBEq, s1], by simp (disch := first | (simp only [go_sem, Bool.and_self, eq_self]; done) | omega | (simp only [gl1, gl2]; omega)) only [go_sem, ↓reduceIte, Nat.reduceEqDiff, Nat.reduceAdd, Nat.reduceMul, Nat.reduceSub, Int.reduceToNat, Nat.reduceBEq, s2], by simp (disch := first | (simp only [go_sem, Bool.and_self, eq_self]; done) | omega | (simp only [gl1, gl2]; omega)) only [go_sem, ↓reduceIte, Nat.reduceEqDiff, Nat.reduceAdd, Nat.reduceMul, Nat.reduceSub, Int.reduceToNat, Nat.reduceBEq, s5], by simp (disch := first | (simp only [go_sem, Bool.and_self, eq_self]; done) | omega | (simp only [gl1, gl2]; omega)) only [go_sem, ↓reduceIte, Nat.reduceEqDiff, Nat.reduceAdd, Nat.reduceMul, Nat.reduceSub, Int.reduceToNat, Nat.reduceBEq, s6], by simp (disch := first | (simp only [go_sem, Bool.and_self, eq_self]; done) | omega | (simp only [gl1, gl2]; omega)) only [go_sem, ↓reduceIte, Nat.reduceEqDiff, Nat.reduceAdd, Nat.reduceMul, Nat.reduceSub, Int.reduceToNat, Nat.reduceBEq, s11], hnx, b0, .inl ⟨by simp (disch := first | (simp only [go_sem, Bool.and_self, eq_self]; done) | omega | (simp only [gl1, gl2]; omega)) only [go_sem, ↓reduceIte, Nat.reduceEqDiff, Nat.reduceAdd, Nat.reduceMul, Nat.reduceSub, Int.reduceToNat, Nat.reduceBEq, s10], b1, rfl⟩⟩ ?_
        rintro j st h hj s12 ⟨s1, s2, s5, s6, s11, hnx, b0, hcase⟩
        rcases hcase with ⟨s10, b1, hno⟩ | ⟨s10, hli, hyes, b1⟩
        case inr =>
          have hat := setB_at L' i true
          by_cases hjn : j < n
          · simp (disch := first | (simp only [go_sem, Bool.and_self, eq_self]; done) | omega | (simp only [gl1, gl2]; omega)) only [go_sem, ↓reduceIte, Nat.reduceEqDiff, Nat.reduceAdd, Nat.reduceMul, Nat.reduceSub, Int.reduceToNat, Nat.reduceBEq, s1, s2, s5, s6, s10, s11, s12, hjn, hin', hlt, b1, hat]
            refine ⟨hnx, b0, ?_⟩
            right; simp [hli, hyes, b1]
          · simp (disch := first | (simp only [go_sem, Bool.and_self, eq_self]; done) | omega | (simp only [gl1, gl2]; omega)) only [go_sem, ↓reduceIte, Nat.reduceEqDiff, Nat.reduceAdd, Nat.reduceMul, Nat.reduceSub, Int.reduceToNat, Nat.reduceBEq, s1, s2, s5, s6, s10, s11, s12, hjn]
            refine ⟨hnx, b0, ?_⟩
            right; simp [hli, hyes, b1]
        by_cases hjn : j < n
        case neg =>
          have hje : j = n := by omega
          subst hje
          simp (disch := first | (simp only [go_sem, Bool.and_self, eq_self]; done) | omega | (simp only [gl1, gl2]; omega)) only [go_sem, ↓reduceIte, Nat.reduceEqDiff, Nat.reduceAdd, Nat.reduceMul, Nat.reduceSub, Int.reduceToNat, Nat.reduceBEq, s1, s2, s5, s6, s10, s11, s12, hjn]
          refine ⟨hnx, b0, ?_⟩
          left; simp [hno, b1]
        cases hli : L' i with
        | true =>
          simp (disch := first | (simp only [go_sem, Bool.and_self, eq_self]; done) | omega | (simp only [gl1, gl2]; omega)) only [go_sem, ↓reduceIte, Nat.reduceEqDiff, Nat.reduceAdd, Nat.reduceMul, Nat.reduceSub, Int.reduceToNat, Nat.reduceBEq, s1, s2, s5, s6, s10, s11, s12, hjn, hin', hlt, b1, hli]
          refine ⟨hnx, b0, ?_⟩
          left; simp [hli, b1]
        | false =>
          have hjr : j < (nth nx i).length := by omega
          have hjr' : (j : Int) < (nth nx i).length := by omega
          have hjn' : (j : Int) < n := by omega
          have hst := leads_step (wF nx) L' i j
          rw [hno, Bool.false_or] at hst
          by_cases hw : 0 < nth (nth nx i) j
          · have hst2 : leads (wF nx) L' i (j + 1) = L' j := by rw [hst]; show (decide (0 < nth (nth nx i) j) && L' j) = L' j; simp [hw]
            cases hlj : L' j with
            | true =>
              have hall : leads (wF nx) L' i n = true := List.any_eq_true.2 ⟨j, List.mem_range.2 hjn, by show (decide (0 < nth (nth nx i) j) && L' j) = true; simp [hw, hlj]⟩
              simp (disch := first | (simp only [go_sem, Bool.and_self, eq_self]; done) | omega | (simp only [gl1, gl2]; omega)) only [go_sem, ↓reduceIte, Nat.reduceEqDiff, Nat.reduceAdd, Nat.reduceMul, Nat.reduceSub, Int.reduceToNat, Nat.reduceBEq, s1, s2, s5, s6, s10, s11, s12, hjn, hin', hlt, b0, b1, hli, hi1, hi1', hjr, hjr', hjn', hw, hlj]
              rw [ForK_normal]
              exact ⟨hjn, by simp (disch := first | (simp only [go_sem, Bool.and_self, eq_self]; done) | omega | (simp only [gl1, gl2]; omega)) only [go_sem, ↓reduceIte, Nat.reduceEqDiff, Nat.reduceAdd, Nat.reduceMul, Nat.reduceSub, Int.reduceToNat, Nat.reduceBEq, s12], by simp (disch := first | (simp only [go_sem, Bool.and_self, eq_self]; done) | omega | (simp only [gl1, gl2]; omega)) only [go_sem, ↓reduceIte, Nat.reduceEqDiff, Nat.reduceAdd, Nat.reduceMul, Nat.reduceSub, Int.reduceToNat, Nat.reduceBEq, s1], by simp (disch := first | (simp only [go_sem, Bool.and_self, eq_self]; done) | omega | (simp only [gl1, gl2]; omega)) only [go_sem, ↓reduceIte, Nat.reduceEqDiff, Nat.reduceAdd, Nat.reduceMul, Nat.reduceSub, Int.reduceToNat, Nat.reduceBEq, s2], by simp (disch := first | (simp only [go_sem, Bool.and_self, eq_self]; done) | omega | (simp only [gl1, gl2]; omega)) only [go_sem, ↓reduceIte, Nat.reduceEqDiff, Nat.reduceAdd, Nat.reduceMul, Nat.reduceSub, Int.reduceToNat, Nat.reduceBEq, s5], by simp (disch := first | (simp only [go_sem, Bool.and_self, eq_self]; done) | omega | (simp only [gl1, gl2]; omega)) only [go_sem, ↓reduceIte, Nat.reduceEqDiff, Nat.reduceAdd, Nat.reduceMul, Nat.reduceSub, Int.reduceToNat, Nat.reduceBEq, s6], by simp (disch := first | (simp only [go_sem, Bool.and_self, eq_self]; done) | omega | (simp only [gl1, gl2]; omega)) only [go_sem, ↓reduceIte, Nat.reduceEqDiff, Nat.reduceAdd, Nat.reduceMul, Nat.reduceSub, Int.reduceToNat, Nat.reduceBEq, s11], by simp (disch := first | (simp only [go_sem, Bool.and_self, eq_self]; done) | omega | (simp only [gl1, gl2]; omega)) only [go_sem, ↓reduceIte, Nat.reduceEqDiff, Nat.reduceAdd, Nat.reduceMul, Nat.reduceSub, Int.reduceToNat, Nat.reduceBEq, hnx], by simp (disch := first | (simp only [go_sem, Bool.and_self, eq_self]; done) | omega | (simp only [gl1, gl2]; omega)) only [go_sem, ↓reduceIte, Nat.reduceEqDiff, Nat.reduceAdd, Nat.reduceMul, Nat.reduceSub, Int.reduceToNat, Nat.reduceBEq, b0], .inr ⟨by simp (disch := first | (simp only [go_sem, Bool.and_self, eq_self]; done) | omega | (simp only [gl1, gl2]; omega)) only [go_sem, ↓reduceIte, Nat.reduceEqDiff, Nat.reduceAdd, Nat.reduceMul, Nat.reduceSub, Int.reduceToNat, Nat.reduceBEq], hall, by simp (disch := first | (simp only [go_sem, Bool.and_self, eq_self]; done) | omega | (simp only [gl1, gl2]; omega)) only [go_sem, ↓reduceIte, Nat.reduceEqDiff, Nat.reduceAdd, Nat.reduceMul, Nat.reduceSub, Int.reduceToNat, Nat.reduceBEq]⟩⟩
            | false =>
              simp (disch := first | (simp only [go_sem, Bool.and_self, eq_self]; done) | omega | (simp only [gl1, gl2]; omega)) only [go_sem, ↓reduceIte, Nat.reduceEqDiff, Nat.reduceAdd, Nat.reduceMul, Nat.reduceSub, Int.reduceToNat, Nat.reduceBEq, s1, s2, s5, s6, s10, s11, s12, hjn, hin', hlt, b0, b1, hli, hi1, hi1', hjr, hjr', hjn', hw, hlj]
              rw [ForK_normal]
              exact ⟨hjn, by simp (disch := first | (simp only [go_sem, Bool.and_self, eq_self]; done) | omega | (simp only [gl1, gl2]; omega)) only [go_sem, ↓reduceIte, Nat.reduceEqDiff, Nat.reduceAdd, Nat.reduceMul, Nat.reduceSub, Int.reduceToNat, Nat.reduceBEq, s12], by simp (disch := first | (simp only [go_sem, Bool.and_self, eq_self]; done) | omega | (simp only [gl1, gl2]; omega)) only [go_sem, ↓reduceIte, Nat.reduceEqDiff, Nat.reduceAdd, Nat.reduceMul, Nat.reduceSub, Int.reduceToNat, Nat.reduceBEq, s1], by simp (disch := first | (simp only [go_sem, Bool.and_self, eq_self]; done) | omega | (simp only [gl1, gl2]; omega)) only [go_sem, ↓reduceIte, Nat.reduceEqDiff, Nat.reduceAdd, Nat.reduceMul, Nat.reduceSub, Int.reduceToNat, Nat.reduceBEq, s2], by simp (disch := first | (simp only [go_sem, Bool.and_self, eq_self]; done) | omega | (simp only [gl1, gl2]; omega)) only [go_sem, ↓reduceIte, Nat.reduceEqDiff, Nat.reduceAdd, Nat.reduceMul, Nat.reduceSub, Int.reduceToNat, Nat.reduceBEq, s5], by simp (disch := first | (simp only [go_sem, Bool.and_self, eq_self]; done) | omega | (simp only [gl1, gl2]; omega)) only [go_sem, ↓reduceIte, Nat.reduceEqDiff, Nat.reduceAdd, Nat.reduceMul, Nat.reduceSub, Int.reduceToNat, Nat.reduceBEq, s6], by simp (disch := first | (simp only [go_sem, Bool.and_self, eq_self]; done) | omega | (simp only [gl1, gl2]; omega)) only [go_sem, ↓reduceIte, Nat.reduceEqDiff, Nat.reduceAdd, Nat.reduceMul, Nat.reduceSub, Int.reduceToNat, Nat.reduceBEq, s11], by simp (disch := first | (simp only [go_sem, Bool.and_self, eq_self]; done) | omega | (simp only [gl1, gl2]; omega)) only [go_sem, ↓reduceIte, Nat.reduceEqDiff, Nat.reduceAdd, Nat.reduceMul, Nat.reduceSub, Int.reduceToNat, Nat.reduceBEq, hnx], by simp (disch := first | (simp only [go_sem, Bool.and_self, eq_self]; done) | omega | (simp only [gl1, gl2]; omega)) only [go_sem, ↓reduceIte, Nat.reduceEqDiff, Nat.reduceAdd, Nat.reduceMul, Nat.reduceSub, Int.reduceToNat, Nat.reduceBEq, b0], .inl ⟨by simp (disch := first | (simp only [go_sem, Bool.and_self, eq_self]; done) | omega | (simp only [gl1, gl2]; omega)) only [go_sem, ↓reduceIte, Nat.reduceEqDiff, Nat.reduceAdd, Nat.reduceMul, Nat.reduceSub, Int.reduceToNat, Nat.reduceBEq, s10], b1, by rw [hst2, hlj]⟩⟩
          · have hst2 : leads (wF nx) L' i (j + 1) = false := by rw [hst]; show (decide (0 < nth (nth nx i) j) && L' j) = false; simp [hw]
            simp (disch := first | (simp only [go_sem, Bool.and_self, eq_self]; done) | omega | (simp only [gl1, gl2]; omega)) only [go_sem, ↓reduceIte, Nat.reduceEqDiff, Nat.reduceAdd, Nat.reduceMul, Nat.reduceSub, Int.reduceToNat, Nat.reduceBEq, s1, s2, s5, s6, s10, s11, s12, hjn, hin', hlt, b0, b1, hli, hi1, hi1', hjr, hjr', hjn', hw]
            rw [ForK_normal]
            exact ⟨hjn, by simp (disch := first | (simp only [go_sem, Bool.and_self, eq_self]; done) | omega | (simp only [gl1, gl2]; omega)) only [go_sem, ↓reduceIte, Nat.reduceEqDiff, Nat.reduceAdd, Nat.reduceMul, Nat.reduceSub, Int.reduceToNat, Nat.reduceBEq, s12], by simp (disch := first | (simp only [go_sem, Bool.and_self, eq_self]; done) | omega | (simp only [gl1, gl2]; omega)) only [go_sem, ↓reduceIte, Nat.reduceEqDiff, Nat.reduceAdd, Nat.reduceMul, Nat.reduceSub, Int.reduceToNat, Nat.reduceBEq, s1], by simp (disch := first | (simp only [go_sem, Bool.and_self, eq_self]; done) | omega | (simp only [gl1, gl2]; omega)) only [go_sem, ↓reduceIte, Nat.reduceEqDiff, Nat.reduceAdd, Nat.reduceMul, Nat.reduceSub, Int.reduceToNat, Nat.reduceBEq, s2], by simp (disch := first | (simp only [go_sem, Bool.and_self, eq_self]; done) | omega | (simp only [gl1, gl2]; omega)) only [go_sem, ↓reduceIte, Nat.reduceEqDiff, Nat.reduceAdd, Nat.reduceMul, Nat.reduceSub, Int.reduceToNat, Nat.reduceBEq, s5], by simp (disch := first | (simp only [go_sem, Bool.and_self, eq_self]; done) | omega | (simp only [gl1, gl2]; omega)) only [go_sem, ↓reduceIte, Nat.reduceEqDiff, Nat.reduceAdd, Nat.reduceMul, Nat.reduceSub, Int.reduceToNat, Nat.reduceBEq, s6], by simp (disch := first | (simp only [go_sem, Bool.and_self, eq_self]; done) | omega | (simp only [gl1, gl2]; omega)) only [go_sem, ↓reduceIte, Nat.reduceEqDiff, Nat.reduceAdd, Nat.reduceMul, Nat.reduceSub, Int.reduceToNat, Nat.reduceBEq, s11], by simp (disch := first | (simp only [go_sem, Bool.and_self, eq_self]; done) | omega | (simp only [gl1, gl2]; omega)) only [go_sem, ↓reduceIte, Nat.reduceEqDiff, Nat.reduceAdd, Nat.reduceMul, Nat.reduceSub, Int.reduceToNat, Nat.reduceBEq, hnx], by simp (disch := first | (simp only [go_sem, Bool.and_self, eq_self]; done) | omega | (simp only [gl1, gl2]; omega)) only [go_sem, ↓reduceIte, Nat.reduceEqDiff, Nat.reduceAdd, Nat.reduceMul, Nat.reduceSub, Int.reduceToNat, Nat.reduceBEq, b0], .inl ⟨by simp (disch := first | (simp only [go_sem, Bool.and_self, eq_self]; done) | omega | (simp only [gl1, gl2]; omega)) only [go_sem, ↓reduceIte, Nat.reduceEqDiff, Nat.reduceAdd, Nat.reduceMul, Nat.reduceSub, Int.reduceToNat, Nat.reduceBEq, s10], b1, hst2⟩⟩
      · rintro st h ⟨s1, s2, s5, s6, s11, hnx, b0, hcase⟩
        rcases hcase with ⟨s10, b1, hno⟩ | ⟨s10, hli, hyes, b1⟩
        · simp (disch := first | (simp only [go_sem, Bool.and_self, eq_self]; done) | omega | (simp only [gl1, gl2]; omega)) only [go_sem, ↓reduceIte, Nat.reduceEqDiff, Nat.reduceAdd, Nat.reduceMul, Nat.reduceSub, Int.reduceToNat, Nat.reduceBEq, s1, s2, s5, s6, s10, s11]
          rw [ForK_normal]
          refine ⟨hlt, by simp (disch := first | (simp only [go_sem, Bool.and_self, eq_self]; done) | omega | (simp only [gl1, gl2]; omega)) only [go_sem, ↓reduceIte, Nat.reduceEqDiff, Nat.reduceAdd, Nat.reduceMul, Nat.reduceSub, Int.reduceToNat, Nat.reduceBEq, s11], by simp (disch := first | (simp only [go_sem, Bool.and_self, eq_self]; done) | omega | (simp only [gl1, gl2]; omega)) only [go_sem, ↓reduceIte, Nat.reduceEqDiff, Nat.reduceAdd, Nat.reduceMul, Nat.reduceSub, Int.reduceToNat, Nat.reduceBEq, s1], by simp (disch := first | (simp only [go_sem, Bool.and_self, eq_self]; done) | omega | (simp only [gl1, gl2]; omega)) only [go_sem, ↓reduceIte, Nat.reduceEqDiff, Nat.reduceAdd, Nat.reduceMul, Nat.reduceSub, Int.reduceToNat, Nat.reduceBEq, s2], by simp (disch := first | (simp only [go_sem, Bool.and_self, eq_self]; done) | omega | (simp only [gl1, gl2]; omega)) only [go_sem, ↓reduceIte, Nat.reduceEqDiff, Nat.reduceAdd, Nat.reduceMul, Nat.reduceSub, Int.reduceToNat, Nat.reduceBEq, s5], by simp (disch := first | (simp only [go_sem, Bool.and_self, eq_self]; done) | omega | (simp only [gl1, gl2]; omega)) only [go_sem, ↓reduceIte, Nat.reduceEqDiff, Nat.reduceAdd, Nat.reduceMul, Nat.reduceSub, Int.reduceToNat, Nat.reduceBEq, s6], hnx, b0, g, L', by simp (disch := first | (simp only [go_sem, Bool.and_self, eq_self]; done) | omega | (simp only [gl1, gl2]; omega)) only [go_sem, ↓reduceIte, Nat.reduceEqDiff, Nat.reduceAdd, Nat.reduceMul, Nat.reduceSub, Int.reduceToNat, Nat.reduceBEq, s10], b1, hL', hsub', hg1, fun h => ?_⟩
          obtain ⟨e, s⟩ := hg2 h
          refine ⟨e, fun k hk hlk => ?_⟩
          by_cases hki : k = i
          · subst hki
            rw [← e] at hlk ⊢
            rcases hno with hno | hno
            · rw [hlk] at hno; cases hno
            · refine ⟨h4 k hlt ?_, leads_no hno⟩
              cases hl0 : L0 k with
              | false => rfl
              | true => rw [hsub' k hlt hl0] at hlk; cases hlk
          · exact s k (by omega) hlk
        · simp (disch := first | (simp only [go_sem, Bool.and_self, eq_self]; done) | omega | (simp only [gl1, gl2]; omega)) only [go_sem, ↓reduceIte, Nat.reduceEqDiff, Nat.reduceAdd, Nat.reduceMul, Nat.reduceSub, Int.reduceToNat, Nat.reduceBEq, s1, s2, s5, s6, s10, s11]
          rw [ForK_normal]
          refine ⟨hlt, by simp (disch := first | (simp only [go_sem, Bool.and_self, eq_self]; done) | omega | (simp only [gl1, gl2]; omega)) only [go_sem, ↓reduceIte, Nat.reduceEqDiff, Nat.reduceAdd, Nat.reduceMul, Nat.reduceSub, Int.reduceToNat, Nat.reduceBEq, s11], by simp (disch := first | (simp only [go_sem, Bool.and_self, eq_self]; done) | omega | (simp only [gl1, gl2]; omega)) only [go_sem, ↓reduceIte, Nat.reduceEqDiff, Nat.reduceAdd, Nat.reduceMul, Nat.reduceSub, Int.reduceToNat, Nat.reduceBEq, s1], by simp (disch := first | (simp only [go_sem, Bool.and_self, eq_self]; done) | omega | (simp only [gl1, gl2]; omega)) only [go_sem, ↓reduceIte, Nat.reduceEqDiff, Nat.reduceAdd, Nat.reduceMul, Nat.reduceSub, Int.reduceToNat, Nat.reduceBEq, s2], by simp (disch := first | (simp only [go_sem, Bool.and_self, eq_self]; done) | omega | (simp only [gl1, gl2]; omega)) only [go_sem, ↓reduceIte, Nat.reduceEqDiff, Nat.reduceAdd, Nat.reduceMul, Nat.reduceSub, Int.reduceToNat, Nat.reduceBEq, s5], by simp (disch := first | (simp only [go_sem, Bool.and_self, eq_self]; done) | omega | (simp only [gl1, gl2]; omega)) only [go_sem, ↓reduceIte, Nat.reduceEqDiff, Nat.reduceAdd, Nat.reduceMul, Nat.reduceSub, Int.reduceToNat, Nat.reduceBEq, s6], hnx, b0, true, setB L' i true, by simp (disch := first | (simp only [go_sem, Bool.and_self, eq_self]; done) | omega | (simp only [gl1, gl2]; omega)) only [go_sem, ↓reduceIte, Nat.reduceEqDiff, Nat.reduceAdd, Nat.reduceMul, Nat.reduceSub, Int.reduceToNat, Nat.reduceBEq, s10], b1, hL'.grow CC hlt (by rw [hyes]; rfl), fun k hk hl0 => ?_, fun _ => ?_, fun h => by cases h⟩
          · unfold setB; split
            · rfl
            · exact hsub' k hk hl0
          · have := cntF_set hi6 hli; omega
    · rintro st h ⟨s1, s2, s5, s6, hnx, b0, g, L', s10, b1, hL', hsub', hg1, hg2⟩
      rw [BlockK_normal, LoopK_normal]
      refine ⟨if g then cntF L' + 1 else 0, ?_, g, L', rfl, s1, s2, s5, s6, s10, hnx, b0, b1, hL', hsub', hg2⟩
      cases g with
      | true => have := hg1 rfl; simp only [if_true]; omega
      | false => simp
  · rintro st h ⟨s1, s2, s5, s6, L, b1, hL, hS⟩
    have hsd := hL.sound hS
    have hres : ∀ b, (b = true ↔ ∀ i, i < n → L i = true) → sndB n (wF nx) (xOf n l) = b := fun b hb => by
      have : sndB n (wF nx) (xOf n l) = true ↔ b = true := by rw [sndB_iff, hsd, hb]
      cases b with
      | true => exact this.2 rfl
      | false => exact Bool.eq_false_iff.2 fun h => by cases this.1 h
    simp (disch := first | (simp only [go_sem, Bool.and_self, eq_self]; done) | omega | (simp only [gl1, gl2]; omega)) only [go_sem, ↓reduceIte, Nat.reduceEqDiff, Nat.reduceAdd, Nat.reduceMul, Nat.reduceSub, Int.reduceToNat, Nat.reduceBEq, s1, s2, s5, s6]
    refine WP_for 13 n (fun i st h => st 5 = I n ∧ st 6 = .sl 1 0 n 1 ∧ h.bl 1 = some (.cells false true (vecB L n)) ∧ ∀ k, k < i → L k = true) (by simp (disch := first | (simp only [go_sem, Bool.and_self, eq_self]; done) | omega | (simp only [gl1, gl2]; omega)) only [go_sem, ↓reduceIte, Nat.reduceEqDiff, Nat.reduceAdd, Nat.reduceMul, Nat.reduceSub, Int.reduceToNat, Nat.reduceBEq]) ⟨by simp (disch := first | (simp only [go_sem, Bool.and_self, eq_self]; done) | omega | (simp only [gl1, gl2]; omega)) only [go_sem, ↓reduceIte, Nat.reduceEqDiff, Nat.reduceAdd, Nat.reduceMul, Nat.reduceSub, Int.reduceToNat, Nat.reduceBEq, s5], by simp (disch := first | (simp only [go_sem, Bool.and_self, eq_self]; done) | omega | (simp only [gl1, gl2]; omega)) only [go_sem, ↓reduceIte, Nat.reduceEqDiff, Nat.reduceAdd, Nat.reduceMul, Nat.reduceSub, Int.reduceToNat, Nat.reduceBEq, s6], b1, fun k hk => by omega⟩ ?_
    rintro i st h hi s13 ⟨s5, s6, b1, hall⟩
    by_cases hlt : i < n
    case neg =>
      have hr := hres true ⟨fun _ k hk => hall k (by omega), fun _ => rfl⟩
      simp (disch := first | (simp only [go_sem, Bool.and_self, eq_self]; done) | omega | (simp only [gl1, gl2]; omega)) only [go_sem, ↓reduceIte, Nat.reduceEqDiff, Nat.reduceAdd, Nat.reduceMul, Nat.reduceSub, Int.reduceToNat, Nat.reduceBEq, s5, s6, s13, hlt, hr]
    have hin' : (i : Int) < n := by omega
    cases hli : L i with
    | true =>
      simp (disch := first | (simp only [go_sem, Bool.and_self, eq_self]; done) | omega | (simp only [gl1, gl2]; omega)) only [go_sem, ↓reduceIte, Nat.reduceEqDiff, Nat.reduceAdd, Nat.reduceMul, Nat.reduceSub, Int.reduceToNat, Nat.reduceBEq, s5, s6, s13, hlt, hin', b1, hli]
      rw [ForK_normal]
      refine ⟨hlt, by simp (disch := first | (simp only [go_sem, Bool.and_self, eq_self]; done) | omega | (simp only [gl1, gl2]; omega)) only [go_sem, ↓reduceIte, Nat.reduceEqDiff, Nat.reduceAdd, Nat.reduceMul, Nat.reduceSub, Int.reduceToNat, Nat.reduceBEq, s13], by simp (disch := first | (simp only [go_sem, Bool.and_self, eq_self]; done) | omega | (simp only [gl1, gl2]; omega)) only [go_sem, ↓reduceIte, Nat.reduceEqDiff, Nat.reduceAdd, Nat.reduceMul, Nat.reduceSub, Int.reduceToNat, Nat.reduceBEq, s5], by simp (disch := first | (simp only [go_sem, Bool.and_self, eq_self]; done) | omega | (simp only [gl1, gl2]; omega)) only [go_sem, ↓reduceIte, Nat.reduceEqDiff, Nat.reduceAdd, Nat.reduceMul, Nat.reduceSub, Int.reduceToNat, Nat.reduceBEq, s6], b1, fun k hk => ?_⟩
      by_cases hki : k = i
      · subst hki; exact hli
      · exact hall k (by omega)
    | false =>
      have hr := hres false ⟨fun h => (by cases h), fun h => (by rw [h i hlt] at hli; cases hli)⟩
      simp (disch := first | (simp only [go_sem, Bool.and_self, eq_self]; done) | omega | (simp only [gl1, gl2]; omega)) only [go_sem, ↓reduceIte, Nat.reduceEqDiff, Nat.reduceAdd, Nat.reduceMul, Nat.reduceSub, Int.reduceToNat, Nat.reduceBEq, s5, s6, s13, hlt, hin', b1, hli, hr]
end Go.Proofs.Ytgamcclfdkpcgaa

set_option linter.unusedVariables false
set_option linter.unusedSimpArgs false
set_option maxRecDepth 10000
namespace Go.Proofs.Ytgamcclfdkpcgaa
open Go Go.Am

variable {h h' : Hp} {K : AV → Hp → Prop}

/-- The numbers below m with a property. -/
def filtL (P : Nat → Bool) (m : Nat) : List Int := ((List.range m).filter P).map fun k : Nat => (k : Int)
theorem filtL_succ (P : Nat → Bool) (m : Nat) : filtL P (m + 1) = if P m then filtL P m ++ [(m : Int)] else filtL P m := by
  unfold filtL
  rw [List.range_succ, List.filter_append, List.map_append]
  cases hp : P m <;> simp [List.filter_cons, hp]
theorem filtL_len (P : Nat → Bool) (m : Nat) : (filtL P m).length ≤ m := by
  unfold filtL
  rw [List.length_map]
  have := List.length_filter_le P (List.range m)
  rwa [List.length_range] at this
theorem filtL_has (P : Nat → Bool) {n i : Nat} (hi : i < n) : hasB (filtL P n) i = P i := by
  unfold hasB filtL
  rw [List.any_map]
  cases hp : P i with
  | true => exact List.any_eq_true.2 ⟨i, List.mem_filter.2 ⟨List.mem_range.2 hi, hp⟩, by simp⟩
  | false =>
    refine List.any_eq_false.2 fun k hk => ?_
    have h1 := (List.mem_filter.1 hk).2
    simp only [Function.comp, decide_eq_true_eq]
    intro e
    have : k = i := by omega
    rw [this, hp] at h1; cases h1
theorem store_pair (id i : Nat) (row : Bool) (ps : List (Int × Int)) (a b : Int) (hi : i < ps.length) :
    storeC h id (i * 2) 2 (some (.cells false row (ps.flatMap eP))) [I a, I b] = some (.skp, h.put id (some (.cells false row ((ps.set i (a, b)).flatMap eP)))) := by
  have hl : (ps.flatMap eP).length = ps.length * 2 := flatMap_len (f := eP) (sz := 2) ps
  rw [storeC_many id _ 2 row _ _ rfl rfl (by rw [hl]; omega)]
  congr 5
  simp only [setL]
  clear hl
  induction ps generalizing i with
  | nil => simp at hi
  | cons p ps ih =>
    cases i with
    | zero => rfl
    | succ i =>
      have := ih i (by simpa using hi)
      rw [show (i + 1) * 2 = i * 2 + 1 + 1 by omega, List.flatMap_cons, List.set_cons_succ, List.flatMap_cons, ← this]
      simp only [eP_apply, List.cons_append, List.nil_append, List.set_cons_succ]
theorem load_pair (d : TypeDesc) (hd : aggD d = true) (ps : List (Int × Int)) (i : Nat) (hi : i < ps.length) : loadC (some d) (some 2) (some (ps.flatMap eP, i * 2)) = some (.agg [I (nth ps i).1, I (nth ps i).2]) := by
  have hl : (ps.flatMap eP).length = ps.length * 2 := flatMap_len (f := eP) (sz := 2) ps
  rw [loadC_agg d 2 hd _ _ (by rw [hl]; omega)]
  congr 2
  clear hl
  induction ps generalizing i with
  | nil => simp at hi
  | cons p ps ih =>
    cases i with
    | zero => rfl
    | succ i =>
      have := ih i (by simpa using hi)
      rw [show (i + 1) * 2 = i * 2 + 1 + 1 by omega, List.flatMap_cons]
      simp only [eP_apply, List.cons_append, List.nil_append, List.drop_succ_cons]
      rw [this]; rfl
theorem stepL_len {n : Nat} {b v : List (Int × Int)} {m : Nat} : (stepL n b v m).length = if b.length < n then m else n := by
  unfold stepL; split <;> simp
theorem stepL_app {n : Nat} {b v : List (Int × Int)} {m : Nat} (h : b.length < n) : stepL n b v (m + 1) = stepL n b v m ++ [nth v m] := by
  unfold stepL; rw [if_pos h, if_pos h, rows_snoc]
theorem stepL_nth {n : Nat} {b v : List (Int × Int)} {m k : Nat} (h : ¬ b.length < n) (hk : k < n) : nth (stepL n b v m) k = if k < m ∧ lessP (nth b k) (nth v k) = true then nth v k else nth b k := by
  unfold stepL; rw [if_neg h, nth_map_range _ _ _ hk]
theorem stepL_set {n : Nat} {b v : List (Int × Int)} {m : Nat} (h : ¬ b.length < n) (hm : m < n) (hl : lessP (nth b m) (nth v m) = true) : (stepL n b v m).set m ((nth v m).1, (nth v m).2) = stepL n b v (m + 1) := by
  refine list_ext_nth (by rw [List.length_set, stepL_len, stepL_len, if_neg h, if_neg h]) fun k hk => ?_
  rw [List.length_set, stepL_len, if_neg h] at hk
  rw [nth_set _ _ _ _ (by rw [stepL_len, if_neg h]; exact hm), stepL_nth h hk, stepL_nth h hk]
  by_cases hkm : m = k
  · subst hkm; rw [if_pos rfl, if_pos ⟨by omega, hl⟩]
  · rw [if_neg hkm]
    have : (k < m) ↔ (k < m + 1) := by omega
    simp only [this]
theorem stepL_same {n : Nat} {b v : List (Int × Int)} {m : Nat} (h : ¬ b.length < n) (hl : lessP (nth b m) (nth v m) = false) : stepL n b v (m + 1) = stepL n b v m := by
  refine list_ext_nth (by rw [stepL_len, stepL_len, if_neg h, if_neg h]) fun k hk => ?_
  rw [stepL_len, if_neg h] at hk
  rw [stepL_nth h hk, stepL_nth h hk]
  by_cases hkm : k = m
  · subst hkm; rw [hl]; simp
  · have : (k < m) ↔ (k < m + 1) := by omega
    simp only [this]
theorem shr_rem (x i : Nat) : ((x >>> i : Nat) : Int).tmod 2 = if x.testBit i then 1 else 0 := by
  rw [Nat.testBit_eq_decide_div_mod_eq, Nat.shiftRight_eq_div_pow]
  generalize x / 2 ^ i = y
  rw [Int.tmod_eq_emod_of_nonneg (show (0 : Int) ≤ (y : Int) by omega)]
  by_cases h : y % 2 = 1
  · simp only [h, decide_true, if_true]; omega
  · simp only [h, decide_false, Bool.false_eq_true, if_false]; omega
def stopsL (n : Nat) (pay : List Int) (b : List (Int × Int)) (m : Nat) : List Int := filtL (fun i => decide ((nth b i).1 = nth pay i) && decide ((nth b i).2 = 1)) m

theorem export_own2 {α β : Type} {f : α → List AV} {sz : Nat} [RowEnc f sz] {g : β → List AV} {tz : Nat} [RowEnc g tz] (t u : TypeId) {v w : AV} {xs : List α} {ys : List β} (o : Go.Am.Own f sz h v xs) (q : Go.Am.Own g tz h w ys) (d : Dis v w) :
    ex2 (sealA h v) w = some (.tup [L f xs, L g ys]) := by
  obtain ⟨g1, r1, n1, b1⟩ := sealA_Own o
  have q1 : Go.Am.Own g tz g1 w ys := by
    rcases q with q | ⟨id, e, hi, hc⟩
    · exact .inl q
    · refine .inr ⟨id, e, by omega, ?_⟩
      rw [b1 id fun id' off n sz' e' => (d _ _ _ _ _ _ _ _ e' e).symm]; exact hc
  obtain ⟨g2, r2, _, _⟩ := sealA_Own q1
  rw [r1, ex2_some, r2, ex1_some]
theorem f37_con {nx : List (List Int)} {pay cost : List Int} (C : okC nx pay cost) :
    Con Try.prog cfg 37 [chA nx pay cost] (.tup [LP (bestL nx pay cost), LI (stopsL nx.length pay (bestL nx pay cost) nx.length)]) := by
  obtain ⟨n, hn⟩ : ∃ n, n = nx.length := ⟨_, rfl⟩
  have hn1 := C.n1
  have hn6 := C.n6
  have hlp := C.lp
  have ml : maxLen = 9223372036854775807 := by decide
  have hal : ∀ g : Hp, allocB g (some (chA nx pay cost)) = some (.ptr g.nx 0, g.alloc (.cells false false [LLI nx, LI pay, LI cost])) := fun g => allocB_agg _ rfl
  have hse : ∀ h : Hp, sealA h (chA nx pay cost) = some (chA nx pay cost, h) := fun h => sealA_agg _ (by simp only [AV.pureL, pure_L, Bool.and_true])
  have hN6 : 2 ^ n ≤ 64 := by have := Nat.pow_le_pow_right (n := 2) (by decide) (show n ≤ 6 by omega); omega
  have esh := shl_one (P := Try.prog) 3 n (by omega)
  obtain ⟨N, hN⟩ : ∃ N, N = 2 ^ n := ⟨_, rfl⟩
  rw [← hN] at esh hN6
  have hbe := bestR_eq C
  rw [← hn, ← hN] at hbe
  refine Con_intro Try.func37 rfl ok37 (Nat.le_of_ble_eq_true rfl) rfl ?_
  simp only [Try.f37, Option.getD_some, initSt1]
  simp (disch := first | (simp only [go_sem, Bool.and_self, eq_self]; done) | omega | (simp only [gl1, gl2]; omega)) only [go_sem, ↓reduceIte, Nat.reduceEqDiff, Nat.reduceAdd, Nat.reduceMul, Nat.reduceSub, Int.reduceToNat, Nat.reduceBEq, hal]
  refine WP_cut (fun st h => st 1 = .ptr 0 0 ∧ st 4 = I n ∧ 1 ≤ h.nx ∧ h.bl 0 = some (.cells false false [LLI nx, LI pay, LI cost]) ∧ ∃ v, st 5 = v ∧ OwnGe 1 eP 2 h v (bestL nx pay cost)) ?_ ?_
  · refine WP_for 6 N (fun m st h => st 1 = .ptr 0 0 ∧ st 4 = I n ∧ 1 ≤ h.nx ∧ h.bl 0 = some (.cells false false [LLI nx, LI pay, LI cost]) ∧ ∃ v, st 5 = v ∧ OwnGe 1 eP 2 h v (bestR nx pay cost m)) (by simp (disch := first | (simp only [go_sem, Bool.and_self, eq_self]; done) | omega | (simp only [gl1, gl2]; omega)) only [go_sem, ↓reduceIte, Nat.reduceEqDiff, Nat.reduceAdd, Nat.reduceMul, Nat.reduceSub, Int.reduceToNat, Nat.reduceBEq]) ⟨by simp (disch := first | (simp only [go_sem, Bool.and_self, eq_self]; done) | omega | (simp only [gl1, gl2]; omega)) only [go_sem, ↓reduceIte, Nat.reduceEqDiff, Nat.reduceAdd, Nat.reduceMul, Nat.reduceSub, Int.reduceToNat, Nat.reduceBEq], by simp (disch := first | (simp only [go_sem, Bool.and_self, eq_self]; done) | omega | (simp only [gl1, gl2]; omega)) only [go_sem, ↓reduceIte, Nat.reduceEqDiff, Nat.reduceAdd, Nat.reduceMul, Nat.reduceSub, Int.reduceToNat, Nat.reduceBEq, hn], by simp (disch := first | (simp only [go_sem, Bool.and_self, eq_self]; done) | omega | (simp only [gl1, gl2]; omega)) only [go_sem, ↓reduceIte, Nat.reduceEqDiff, Nat.reduceAdd, Nat.reduceMul, Nat.reduceSub, Int.reduceToNat, Nat.reduceBEq]; decide, by simp (disch := first | (simp only [go_sem, Bool.and_self, eq_self]; done) | omega | (simp only [gl1, gl2]; omega)) only [go_sem, ↓reduceIte, Nat.reduceEqDiff, Nat.reduceAdd, Nat.reduceMul, Nat.reduceSub, Int.reduceToNat, Nat.reduceBEq], .nil, by simp (disch := first | (simp only [go_sem, Bool.and_self, eq_self]; done) | omega | (simp only [gl1, gl2]; omega)) only [go_sem, ↓reduceIte, Nat.reduceEqDiff, Nat.reduceAdd, Nat.reduceMul, Nat.reduceSub, Int.reduceToNat, Nat.reduceBEq], .inl ⟨rfl, rfl⟩⟩ ?_
    rintro m st h hm s6 ⟨s1, s4, hnx, b0, v, s5, ov⟩
    by_cases hlt : m < N
    case neg =>
      have hme : m = N := by omega
      rw [hme, hbe] at ov
      simp (disch := first | (simp only [go_sem, Bool.and_self, eq_self]; done) | omega | (simp only [gl1, gl2]; omega)) only [go_sem, ↓reduceIte, Nat.reduceEqDiff, Nat.reduceAdd, Nat.reduceMul, Nat.reduceSub, Int.reduceToNat, Nat.reduceBEq, s1, s4, s5, s6, esh, hlt]
      exact ⟨hnx, b0, _, rfl, ov⟩
    have BI := bestR_inv C m
    simp (disch := first | (simp only [go_sem, Bool.and_self, eq_self]; done) | omega | (simp only [gl1, gl2]; omega)) only [go_sem, ↓reduceIte, Nat.reduceEqDiff, Nat.reduceAdd, Nat.reduceMul, Nat.reduceSub, Int.reduceToNat, Nat.reduceBEq, s1, s4, s5, s6, esh, hlt]
    -- the rule as a list
    obtain ⟨B, hB⟩ : ∃ B, B = h.nx := ⟨_, rfl⟩
    refine WP_cut (fun st g => st 1 = .ptr 0 0 ∧ st 4 = I n ∧ st 5 = v ∧ st 6 = I m ∧ B ≤ g.nx ∧ (∀ id, id < B → g.bl id = h.bl id) ∧ ∃ y, st 7 = y ∧ OwnGe B (e1 I) 1 g y (filtL (ruleB m) n)) ?_ ?_
    · refine WP_for 8 n (fun i st g => st 1 = .ptr 0 0 ∧ st 4 = I n ∧ st 5 = v ∧ st 6 = I m ∧ B ≤ g.nx ∧ (∀ id, id < B → g.bl id = h.bl id) ∧ ∃ y, st 7 = y ∧ OwnGe B (e1 I) 1 g y (filtL (ruleB m) i)) (by simp (disch := first | (simp only [go_sem, Bool.and_self, eq_self]; done) | omega | (simp only [gl1, gl2]; omega)) only [go_sem, ↓reduceIte, Nat.reduceEqDiff, Nat.reduceAdd, Nat.reduceMul, Nat.reduceSub, Int.reduceToNat, Nat.reduceBEq])
        ⟨by simp (disch := first | (simp only [go_sem, Bool.and_self, eq_self]; done) | omega | (simp only [gl1, gl2]; omega)) only [go_sem, ↓reduceIte, Nat.reduceEqDiff, Nat.reduceAdd, Nat.reduceMul, Nat.reduceSub, Int.reduceToNat, Nat.reduceBEq, s1], by simp (disch := first | (simp only [go_sem, Bool.and_self, eq_self]; done) | omega | (simp only [gl1, gl2]; omega)) only [go_sem, ↓reduceIte, Nat.reduceEqDiff, Nat.reduceAdd, Nat.reduceMul, Nat.reduceSub, Int.reduceToNat, Nat.reduceBEq, s4], by simp (disch := first | (simp only [go_sem, Bool.and_self, eq_self]; done) | omega | (simp only [gl1, gl2]; omega)) only [go_sem, ↓reduceIte, Nat.reduceEqDiff, Nat.reduceAdd, Nat.reduceMul, Nat.reduceSub, Int.reduceToNat, Nat.reduceBEq, s5], by simp (disch := first | (simp only [go_sem, Bool.and_self, eq_self]; done) | omega | (simp only [gl1, gl2]; omega)) only [go_sem, ↓reduceIte, Nat.reduceEqDiff, Nat.reduceAdd, Nat.reduceMul, Nat.reduceSub, Int.reduceToNat, Nat.reduceBEq, s6], by omega, fun _ _ => rfl, .nil, by simp (disch := first | (simp only [go_sem, Bool.and_self, eq_self]; done) | omega | (simp only [gl1, gl2]; omega)) only [go_sem, ↓reduceIte, Nat.reduceEqDiff, Nat.reduceAdd, Nat.reduceMul, Nat.reduceSub, Int.reduceToNat, Nat.reduceBEq], .inl ⟨rfl, rfl⟩⟩ ?_
      rintro i st g hi s8 ⟨s1, s4, s5, s6, hgn, hgo, y, s7, oy⟩
      by_cases hin : i < n
      case neg =>
        have hie : i = n := by omega
        subst hie
        simp (disch := first | (simp only [go_sem, Bool.and_self, eq_self]; done) | omega | (simp only [gl1, gl2]; omega)) only [go_sem, ↓reduceIte, Nat.reduceEqDiff, Nat.reduceAdd, Nat.reduceMul, Nat.reduceSub, Int.reduceToNat, Nat.reduceBEq, s1, s4, s5, s6, s7, s8, hin]
        exact ⟨hgn, hgo, _, rfl, oy⟩
      have hsh := shr_nat (P := Try.prog) 3 m i (by omega)
      have hsl : m >>> i < 9223372036854775808 := by rw [Nat.shiftRight_eq_div_pow]; exact Nat.lt_of_le_of_lt (Nat.div_le_self _ _) (by omega)
      have hrm := shr_rem m i
      have hfs := filtL_succ (ruleB m) i
      have hfl := filtL_len (ruleB m) i
      have n20 : ¬ (2 : Int) = 0 := by decide
      cases hb : m.testBit i with
      | false =>
        have hrb : ruleB m i = false := hb
        rw [hb] at hrm
        rw [hrb] at hfs
        have hrm' : ((m >>> i : Nat) : Int).tmod 2 = 0 := hrm
        have hfs' : filtL (ruleB m) (i + 1) = filtL (ruleB m) i := hfs
        have e01 : ¬ (0 : Int) = 1 := by decide
        simp (disch := first | (simp only [go_sem, Bool.and_self, eq_self]; done) | omega | (simp only [gl1, gl2]; omega)) only [go_sem, ↓reduceIte, Nat.reduceEqDiff, Nat.reduceAdd, Nat.reduceMul, Nat.reduceSub, Int.reduceToNat, Nat.reduceBEq, s1, s4, s5, s6, s7, s8, hin, hsh, hrm', n20, e01]
        rw [ForK_normal]
        exact ⟨hin, by simp (disch := first | (simp only [go_sem, Bool.and_self, eq_self]; done) | omega | (simp only [gl1, gl2]; omega)) only [go_sem, ↓reduceIte, Nat.reduceEqDiff, Nat.reduceAdd, Nat.reduceMul, Nat.reduceSub, Int.reduceToNat, Nat.reduceBEq, s8], by simp (disch := first | (simp only [go_sem, Bool.and_self, eq_self]; done) | omega | (simp only [gl1, gl2]; omega)) only [go_sem, ↓reduceIte, Nat.reduceEqDiff, Nat.reduceAdd, Nat.reduceMul, Nat.reduceSub, Int.reduceToNat, Nat.reduceBEq, s1], by simp (disch := first | (simp only [go_sem, Bool.and_self, eq_self]; done) | omega | (simp only [gl1, gl2]; omega)) only [go_sem, ↓reduceIte, Nat.reduceEqDiff, Nat.reduceAdd, Nat.reduceMul, Nat.reduceSub, Int.reduceToNat, Nat.reduceBEq, s4], by simp (disch := first | (simp only [go_sem, Bool.and_self, eq_self]; done) | omega | (simp only [gl1, gl2]; omega)) only [go_sem, ↓reduceIte, Nat.reduceEqDiff, Nat.reduceAdd, Nat.reduceMul, Nat.reduceSub, Int.reduceToNat, Nat.reduceBEq, s5], by simp (disch := first | (simp only [go_sem, Bool.and_self, eq_self]; done) | omega | (simp only [gl1, gl2]; omega)) only [go_sem, ↓reduceIte, Nat.reduceEqDiff, Nat.reduceAdd, Nat.reduceMul, Nat.reduceSub, Int.reduceToNat, Nat.reduceBEq, s6], hgn, hgo, y, by simp (disch := first | (simp only [go_sem, Bool.and_self, eq_self]; done) | omega | (simp only [gl1, gl2]; omega)) only [go_sem, ↓reduceIte, Nat.reduceEqDiff, Nat.reduceAdd, Nat.reduceMul, Nat.reduceSub, Int.reduceToNat, Nat.reduceBEq, s7], by rw [hfs']; exact oy⟩
      | true =>
        have hrb : ruleB m i = true := hb
        rw [hb] at hrm
        rw [hrb] at hfs
        have hrm' : ((m >>> i : Nat) : Int).tmod 2 = 1 := hrm
        have hfs' : filtL (ruleB m) (i + 1) = filtL (ruleB m) i ++ [(i : Int)] := hfs
        have hbs := fun h => bsB_one (P := Try.prog) 3 (I i) (I i) (I 0) h isz3 izero3 rfl rfl rfl rfl rfl rfl rfl
        have happ := app_one (P := Try.prog) oy.own 3 8 (I 0) (i : Int) isz3 ibytes3 izero3 rfl (by omega) (by omega)
        have ln : B ≤ (appH g y ((filtL (ruleB m) i ++ [(i : Int)]).flatMap (e1 I))).nx := by rw [appH_nx]; omega
        have lo : OwnGe B (e1 I) 1 (appH g y ((filtL (ruleB m) i ++ [(i : Int)]).flatMap (e1 I))) (appV g (filtL (ruleB m) i ++ [(i : Int)]).length 1) (filtL (ruleB m) (i + 1)) := by
          rw [hfs']
          exact OwnGe.app _ hgn _
        have ll : ∀ id, id < B → (appH g y ((filtL (ruleB m) i ++ [(i : Int)]).flatMap (e1 I))).bl id = h.bl id := fun id hid => by
          rw [oy.low hid (by omega)]; exact hgo id hid
        generalize appH g y ((filtL (ruleB m) i ++ [(i : Int)]).flatMap (e1 I)) = G at *
        generalize appV g (filtL (ruleB m) i ++ [(i : Int)]).length 1 = u at *
        simp (disch := first | (simp only [go_sem, Bool.and_self, eq_self]; done) | omega | (simp only [gl1, gl2]; omega)) only [go_sem, ↓reduceIte, Nat.reduceEqDiff, Nat.reduceAdd, Nat.reduceMul, Nat.reduceSub, Int.reduceToNat, Nat.reduceBEq, s1, s4, s5, s6, s7, s8, hin, hsh, hrm', n20, eq_self, decide_true, hbs, happ]
        rw [ForK_normal]
        exact ⟨hin, by simp (disch := first | (simp only [go_sem, Bool.and_self, eq_self]; done) | omega | (simp only [gl1, gl2]; omega)) only [go_sem, ↓reduceIte, Nat.reduceEqDiff, Nat.reduceAdd, Nat.reduceMul, Nat.reduceSub, Int.reduceToNat, Nat.reduceBEq, s8], by simp (disch := first | (simp only [go_sem, Bool.and_self, eq_self]; done) | omega | (simp only [gl1, gl2]; omega)) only [go_sem, ↓reduceIte, Nat.reduceEqDiff, Nat.reduceAdd, Nat.reduceMul, Nat.reduceSub, Int.reduceToNat, Nat.reduceBEq, s1], by simp (disch := first | (simp only [go_sem, Bool.and_self, eq_self]; done) | omega | (simp only [gl1, gl2]; omega)) only [go_sem, ↓reduceIte, Nat.reduceEqDiff, Nat.reduceAdd, Nat.reduceMul, Nat.reduceSub, Int.reduceToNat, Nat.reduceBEq, s4], by simp (disch := first | (simp only [go_sem, Bool.and_self, eq_self]; done) | omega | (simp only [gl1, gl2]; omega)) only [go_sem, ↓reduceIte, Nat.reduceEqDiff, Nat.reduceAdd, Nat.reduceMul, Nat.reduceSub, Int.reduceToNat, Nat.reduceBEq, s5], by simp (disch := first | (simp only [go_sem, Bool.and_self, eq_self]; done) | omega | (simp only [gl1, gl2]; omega)) only [go_sem, ↓reduceIte, Nat.reduceEqDiff, Nat.reduceAdd, Nat.reduceMul, Nat.reduceSub, Int.reduceToNat, Nat.reduceBEq, s6], ln, ll, _, by simp (disch := first | (simp only [go_sem, Bool.and_self, eq_self]; done) | omega | (simp only [gl1, gl2]; omega)) only [go_sem, ↓reduceIte, Nat.reduceEqDiff, Nat.reduceAdd, Nat.reduceMul, Nat.reduceSub, Int.reduceToNat, Nat.reduceBEq], lo⟩
    rintro st g ⟨s1, s4, s5, s6, hgn, hgo, y, s7, oy⟩
    obtain ⟨l, hl⟩ : ∃ l, l = filtL (ruleB m) n := ⟨_, rfl⟩
    have hll : l.length ≤ maxLen := by have := filtL_len (ruleB m) n; rw [hl]; omega
    have hxr : ∀ i, i < nx.length → ruleB (xOf nx.length l) i = ruleB m i := fun i hi => by rw [xOf_bit l hi, hl, filtL_has _ (by omega)]
    have hsb : sndB nx.length (wF nx) (xOf nx.length l) = sndB nx.length (wF nx) m := sndB_congr hxr
    have hvl : valL nx pay cost (xOf nx.length l) = valL nx pay cost m := valL_congr hxr
    rw [← hl] at oy
    obtain ⟨g2, hsy, hg2n, hg2o⟩ := sealA_Own oy.own
    have g0 : g.bl 0 = some (.cells false false [LLI nx, LI pay, LI cost]) := (hgo 0 (by omega)).trans b0
    have k32 := fun h h' K => ConW_num (h := h) (h' := h') (K := K) (f32_con C l hll) rfl
    rw [hsb] at k32
    cases hs : sndB nx.length (wF nx) m with
    | false =>
      have hbr : bestR nx pay cost (m + 1) = bestR nx pay cost m := by rw [bestR, hs]; rfl
      simp (disch := first | (simp only [go_sem, Bool.and_self, eq_self]; done) | omega | (simp only [gl1, gl2]; omega)) only [go_sem, ↓reduceIte, Nat.reduceEqDiff, Nat.reduceAdd, Nat.reduceMul, Nat.reduceSub, Int.reduceToNat, Nat.reduceBEq, s1, s4, s5, s6, s7, g0, hse, hsy, k32, hs]
      rw [ForK_normal]
      exact ⟨hlt, by simp (disch := first | (simp only [go_sem, Bool.and_self, eq_self]; done) | omega | (simp only [gl1, gl2]; omega)) only [go_sem, ↓reduceIte, Nat.reduceEqDiff, Nat.reduceAdd, Nat.reduceMul, Nat.reduceSub, Int.reduceToNat, Nat.reduceBEq, s6], by simp (disch := first | (simp only [go_sem, Bool.and_self, eq_self]; done) | omega | (simp only [gl1, gl2]; omega)) only [go_sem, ↓reduceIte, Nat.reduceEqDiff, Nat.reduceAdd, Nat.reduceMul, Nat.reduceSub, Int.reduceToNat, Nat.reduceBEq, s1], by simp (disch := first | (simp only [go_sem, Bool.and_self, eq_self]; done) | omega | (simp only [gl1, gl2]; omega)) only [go_sem, ↓reduceIte, Nat.reduceEqDiff, Nat.reduceAdd, Nat.reduceMul, Nat.reduceSub, Int.reduceToNat, Nat.reduceBEq, s4], by omega, g0, v, by simp (disch := first | (simp only [go_sem, Bool.and_self, eq_self]; done) | omega | (simp only [gl1, gl2]; omega)) only [go_sem, ↓reduceIte, Nat.reduceEqDiff, Nat.reduceAdd, Nat.reduceMul, Nat.reduceSub, Int.reduceToNat, Nat.reduceBEq, s5], by rw [hbr]; exact ov.mono (by omega) fun id _ h3 => hgo id (by omega)⟩
    | true =>
      have hsp := sndB_iff.1 hs
      have hspx : sndP nx.length (wF nx) (ruleB (xOf nx.length l)) := sndB_iff.1 (by rw [hsb]; exact hs)
      have hbr : bestR nx pay cost (m + 1) = stepL n (bestR nx pay cost m) (valL nx pay cost m) n := by rw [bestR, hs, hn]; rfl
      have k34 := fun h h' K => ConW_any (h := h) (h' := h') (K := K) (f34_con C l hll hspx) rfl
      rw [hvl] at k34
      have hi34 : ∀ (h : Hp) (l : List (Int × Int)), importR h (LP l) = (LP l, h) := fun _ _ => rfl
      have hvlen := valL_len nx pay cost m
      have hvd := fun i hi => val_den C hsp (i := i) hi
      have hyid : ∀ id, id < B → ∀ id' off k sz', y = .sl id' off k sz' → id ≠ id' := fun id hid id' off k sz' e => by
        rcases oy with ⟨e2, _⟩ | ⟨w, h1, e2, _⟩
        · rw [e2] at e; cases e
        · rw [e2] at e; cases e; omega
      have g20 : g2.bl 0 = some (.cells false false [LLI nx, LI pay, LI cost]) := by rw [hg2o 0 (hyid 0 (by omega))]; exact g0
      have ov2 : OwnGe 1 eP 2 g2 v (bestR nx pay cost m) := ov.mono (by omega) fun id _ h3 => by
        rw [hg2o id (hyid id (by omega))]; exact hgo id (by omega)
      have hge : ∀ i, i < (bestR nx pay cost m).length → (1 ≤ (nth (bestR nx pay cost m) i).2 ∧ (nth (bestR nx pay cost m) i).2 ≤ 262144) ∧ (-3188646000 ≤ (nth (bestR nx pay cost m) i).1 ∧ (nth (bestR nx pay cost m) i).1 ≤ 3188646000) := fun i hi => by
        obtain ⟨x, _, h1, h2⟩ := BI.ex i hi
        rw [h2]
        refine val_den C h1 ?_
        rcases BI.len with e | e
        · rw [e] at hi; simp at hi
        · omega
      have hbl := BI.len
      have hg21 : 1 ≤ g2.nx := by omega
      generalize bestR nx pay cost m = b at *
      generalize valL nx pay cost m = vl at *
      simp (disch := first | (simp only [go_sem, Bool.and_self, eq_self]; done) | omega | (simp only [gl1, gl2]; omega)) only [go_sem, ↓reduceIte, Nat.reduceEqDiff, Nat.reduceAdd, Nat.reduceMul, Nat.reduceSub, Int.reduceToNat, Nat.reduceBEq, s1, s4, s5, s6, s7, g0, hse, hsy, k32, hs, k34, hi34, g20]
      refine WP_cut (fun st g => st 1 = .ptr 0 0 ∧ st 4 = I n ∧ st 6 = I m ∧ 1 ≤ g.nx ∧ g.bl 0 = some (.cells false false [LLI nx, LI pay, LI cost]) ∧ ∃ v, st 5 = v ∧ OwnGe 1 eP 2 g v (stepL n b vl n)) ?_ ?_
      · refine WP_for 10 n (fun i st g => st 1 = .ptr 0 0 ∧ st 4 = I n ∧ st 6 = I m ∧ st 9 = LP vl ∧ 1 ≤ g.nx ∧ g.bl 0 = some (.cells false false [LLI nx, LI pay, LI cost]) ∧ ∃ v, st 5 = v ∧ OwnGe 1 eP 2 g v (if i = 0 then b else stepL n b vl i)) (by simp (disch := first | (simp only [go_sem, Bool.and_self, eq_self]; done) | omega | (simp only [gl1, gl2]; omega)) only [go_sem, ↓reduceIte, Nat.reduceEqDiff, Nat.reduceAdd, Nat.reduceMul, Nat.reduceSub, Int.reduceToNat, Nat.reduceBEq])
          ⟨by simp (disch := first | (simp only [go_sem, Bool.and_self, eq_self]; done) | omega | (simp only [gl1, gl2]; omega)) only [go_sem, ↓reduceIte, Nat.reduceEqDiff, Nat.reduceAdd, Nat.reduceMul, Nat.reduceSub, Int.reduceToNat, Nat.reduceBEq, s1], by simp (disch := first | (simp only [go_sem, Bool.and_self, eq_self]; done) | omega | (simp only [gl1, gl2]; omega)) only [go_sem, ↓reduceIte, Nat.reduceEqDiff, Nat.reduceAdd, Nat.reduceMul, Nat.reduceSub, Int.reduceToNat, Nat.reduceBEq, s4], by simp (disch := first | (simp only [go_sem, Bool.and_self, eq_self]; done) | omega | (simp only [gl1, gl2]; omega)) only [go_sem, ↓reduceIte, Nat.reduceEqDiff, Nat.reduceAdd, Nat.reduceMul, Nat.reduceSub, Int.reduceToNat, Nat.reduceBEq, s6], by simp (disch := first | (simp only [go_sem, Bool.and_self, eq_self]; done) | omega | (simp only [gl1, gl2]; omega)) only [go_sem, ↓reduceIte, Nat.reduceEqDiff, Nat.reduceAdd, Nat.reduceMul, Nat.reduceSub, Int.reduceToNat, Nat.reduceBEq], hg21, g20, v, by simp (disch := first | (simp only [go_sem, Bool.and_self, eq_self]; done) | omega | (simp only [gl1, gl2]; omega)) only [go_sem, ↓reduceIte, Nat.reduceEqDiff, Nat.reduceAdd, Nat.reduceMul, Nat.reduceSub, Int.reduceToNat, Nat.reduceBEq, s5], by rw [if_pos rfl]; exact ov2⟩ ?_
        rintro i st g hi s10 ⟨s1, s4, s6, s9, hgn, g0, v, s5, ov⟩
        by_cases hin : i < n
        case neg =>
          have hie : i = n := by omega
          subst hie
          rw [if_neg (by omega)] at ov
          simp (disch := first | (simp only [go_sem, Bool.and_self, eq_self]; done) | omega | (simp only [gl1, gl2]; omega)) only [go_sem, ↓reduceIte, Nat.reduceEqDiff, Nat.reduceAdd, Nat.reduceMul, Nat.reduceSub, Int.reduceToNat, Nat.reduceBEq, s1, s4, s5, s6, s9, s10, hin]
          exact ⟨hgn, g0, _, rfl, ov⟩
        have hiv : i < vl.length := by omega
        have hiv' : (i : Int) < vl.length := by omega
        by_cases hlb : b.length < n
        · have hb0 : b = [] := by
            rcases hbl with e | e
            · exact e
            · omega
          have hcur : (if i = 0 then b else stepL n b vl i) = stepL n b vl i := by
            split
            · rename_i e; subst e; rw [hb0]; unfold stepL; rw [if_pos (by rw [List.length_nil]; omega)]; rfl
            · rfl
          rw [hcur] at ov
          have hsl := stepL_len (n := n) (b := b) (v := vl) (m := i)
          rw [if_pos hlb] at hsl
          have hlen := ov.own.lenB 37 g none
          rw [hsl] at hlen
          have hsa := stepL_app (n := n) (b := b) (v := vl) (m := i) hlb
          have hbs := fun h => bsB_pair (P := Try.prog) (h := h) 37 (nth vl i).1 (nth vl i).2 0 0 isz37 izero37
          have happ := app_pair (P := Try.prog) ov.own 37 16 (.agg [I 0, I 0]) (nth vl i).1 (nth vl i).2 isz37 ibytes37 izero37 rfl (by omega) (by omega)
          have ln : 1 ≤ (appH g v ((stepL n b vl i ++ [((nth vl i).1, (nth vl i).2)]).flatMap eP)).nx := by rw [appH_nx]; omega
          have lo : OwnGe 1 eP 2 (appH g v ((stepL n b vl i ++ [((nth vl i).1, (nth vl i).2)]).flatMap eP)) (appV g (stepL n b vl i ++ [((nth vl i).1, (nth vl i).2)]).length 2) (if i + 1 = 0 then b else stepL n b vl (i + 1)) := by
            rw [if_neg (by omega), hsa]
            exact OwnGe.app _ hgn _
          have ll : (appH g v ((stepL n b vl i ++ [((nth vl i).1, (nth vl i).2)]).flatMap eP)).bl 0 = some (.cells false false [LLI nx, LI pay, LI cost]) := by
            rw [ov.low (by decide) (by omega)]; exact g0
          generalize appH g v ((stepL n b vl i ++ [((nth vl i).1, (nth vl i).2)]).flatMap eP) = G at *
          generalize appV g (stepL n b vl i ++ [((nth vl i).1, (nth vl i).2)]).length 2 = u at *
          simp (disch := first | (simp only [go_sem, Bool.and_self, eq_self]; done) | omega | (simp only [gl1, gl2]; omega)) only [go_sem, ↓reduceIte, Nat.reduceEqDiff, Nat.reduceAdd, Nat.reduceMul, Nat.reduceSub, Int.reduceToNat, Nat.reduceBEq, s1, s4, s5, s6, s9, s10, hin, hlen, hiv, hiv', hbs, happ]
          rw [ForK_normal]
          exact ⟨hin, by simp (disch := first | (simp only [go_sem, Bool.and_self, eq_self]; done) | omega | (simp only [gl1, gl2]; omega)) only [go_sem, ↓reduceIte, Nat.reduceEqDiff, Nat.reduceAdd, Nat.reduceMul, Nat.reduceSub, Int.reduceToNat, Nat.reduceBEq, s10], by simp (disch := first | (simp only [go_sem, Bool.and_self, eq_self]; done) | omega | (simp only [gl1, gl2]; omega)) only [go_sem, ↓reduceIte, Nat.reduceEqDiff, Nat.reduceAdd, Nat.reduceMul, Nat.reduceSub, Int.reduceToNat, Nat.reduceBEq, s1], by simp (disch := first | (simp only [go_sem, Bool.and_self, eq_self]; done) | omega | (simp only [gl1, gl2]; omega)) only [go_sem, ↓reduceIte, Nat.reduceEqDiff, Nat.reduceAdd, Nat.reduceMul, Nat.reduceSub, Int.reduceToNat, Nat.reduceBEq, s4], by simp (disch := first | (simp only [go_sem, Bool.and_self, eq_self]; done) | omega | (simp only [gl1, gl2]; omega)) only [go_sem, ↓reduceIte, Nat.reduceEqDiff, Nat.reduceAdd, Nat.reduceMul, Nat.reduceSub, Int.reduceToNat, Nat.reduceBEq, s6], by simp (disch := first | (simp only [go_sem, Bool.and_self, eq_self]; done) | omega | (simp only [gl1, gl2]; omega)) only [go_sem, ↓reduceIte, Nat.reduceEqDiff, Nat.reduceAdd, Nat.reduceMul, Nat.reduceSub, Int.reduceToNat, Nat.reduceBEq, s9], ln, ll, _, by simp (disch := first | (simp only [go_sem, Bool.and_self, eq_self]; done) | omega | (simp only [gl1, gl2]; omega)) only [go_sem, ↓reduceIte, Nat.reduceEqDiff, Nat.reduceAdd, Nat.reduceMul, Nat.reduceSub, Int.reduceToNat, Nat.reduceBEq], lo⟩
        · have hb0 : b.length = n := by
            rcases hbl with e | e
            · exact absurd (by rw [e, List.length_nil]; omega) hlb
            · omega
          have hcur : (if i = 0 then b else stepL n b vl i) = stepL n b vl i := by
            split
            · rename_i e; subst e
              refine list_ext_nth (by rw [stepL_len, if_neg hlb, hb0]) fun k hk => ?_
              rw [stepL_nth hlb (by omega)]; simp
            · rfl
          rw [hcur] at ov
          have hsl := stepL_len (n := n) (b := b) (v := vl) (m := i)
          rw [if_neg hlb] at hsl
          obtain ⟨id, hid1, rfl, hidn, hbid⟩ : ∃ id, 1 ≤ id ∧ v = .sl id 0 n 2 ∧ id < g.nx ∧ g.bl id = some (.cells false true ((stepL n b vl i).flatMap eP)) := by
            rcases ov with ⟨_, e⟩ | ⟨id, h1, h2, h3, h4⟩
            · have := congrArg List.length e; rw [hsl, List.length_nil] at this; omega
            · exact ⟨id, h1, by rw [h2, hsl], h3, h4⟩
          have hlen : lenB (some (.slice 37)) (.sl id 0 n 2) g none = some (I n) := by have := ov.own.lenB 37 g none; rwa [hsl] at this
          have hcurn := stepL_nth (n := n) (b := b) (v := vl) (m := i) hlb hin
          rw [if_neg (fun h => by omega)] at hcurn
          have hbd := hge i (by omega)
          have hvdi := hvd i (by omega)
          have hld := load_pair (.struct #[{ name := "Num", type := 3, offset := 0, embedded := false, tag := "", pkgPath := "", byteOffset := 0 }, { name := "Den", type := 3, offset := 1, embedded := false, tag := "", pkgPath := "", byteOffset := 8 }]) rfl (stepL n b vl i) i (by rw [hsl]; exact hin)
          rw [hcurn] at hld
          have hm1 := mul_bd (a := (nth b i).1) (b := (nth vl i).2) (A := 3188646000) (B := 262144) (by omega) (by omega)
          have hm2 := mul_bd (a := (nth vl i).1) (b := (nth b i).2) (A := 3188646000) (B := 262144) (by omega) (by omega)
          have k20 := fun h h' K => ConW_num (h := h) (h' := h') (K := K) (f20_con (nth b i) (nth vl i) (by simp only [big]; omega) (by simp only [big]; omega)) rfl
          have hin' : (i : Int) < n := by omega
          have hnn : ¬ (n : Int) < n := by omega
          have hidn0 : ¬ 0 = id := by omega
          cases hls : lessP (nth b i) (nth vl i) with
          | false =>
            have hsm := stepL_same (n := n) (b := b) (v := vl) (m := i) hlb hls
            simp (disch := first | (simp only [go_sem, Bool.and_self, eq_self]; done) | omega | (simp only [gl1, gl2]; omega)) only [go_sem, ↓reduceIte, Nat.reduceEqDiff, Nat.reduceAdd, Nat.reduceMul, Nat.reduceSub, Int.reduceToNat, Nat.reduceBEq, s1, s4, s5, s6, s9, s10, hin, hin', hlen, hnn, hiv, hiv', hbid, hidn, hld, k20, hls]
            rw [ForK_normal]
            refine ⟨hin, by simp (disch := first | (simp only [go_sem, Bool.and_self, eq_self]; done) | omega | (simp only [gl1, gl2]; omega)) only [go_sem, ↓reduceIte, Nat.reduceEqDiff, Nat.reduceAdd, Nat.reduceMul, Nat.reduceSub, Int.reduceToNat, Nat.reduceBEq, s10], by simp (disch := first | (simp only [go_sem, Bool.and_self, eq_self]; done) | omega | (simp only [gl1, gl2]; omega)) only [go_sem, ↓reduceIte, Nat.reduceEqDiff, Nat.reduceAdd, Nat.reduceMul, Nat.reduceSub, Int.reduceToNat, Nat.reduceBEq, s1], by simp (disch := first | (simp only [go_sem, Bool.and_self, eq_self]; done) | omega | (simp only [gl1, gl2]; omega)) only [go_sem, ↓reduceIte, Nat.reduceEqDiff, Nat.reduceAdd, Nat.reduceMul, Nat.reduceSub, Int.reduceToNat, Nat.reduceBEq, s4], by simp (disch := first | (simp only [go_sem, Bool.and_self, eq_self]; done) | omega | (simp only [gl1, gl2]; omega)) only [go_sem, ↓reduceIte, Nat.reduceEqDiff, Nat.reduceAdd, Nat.reduceMul, Nat.reduceSub, Int.reduceToNat, Nat.reduceBEq, s6], by simp (disch := first | (simp only [go_sem, Bool.and_self, eq_self]; done) | omega | (simp only [gl1, gl2]; omega)) only [go_sem, ↓reduceIte, Nat.reduceEqDiff, Nat.reduceAdd, Nat.reduceMul, Nat.reduceSub, Int.reduceToNat, Nat.reduceBEq, s9], hgn, g0, _, by simp (disch := first | (simp only [go_sem, Bool.and_self, eq_self]; done) | omega | (simp only [gl1, gl2]; omega)) only [go_sem, ↓reduceIte, Nat.reduceEqDiff, Nat.reduceAdd, Nat.reduceMul, Nat.reduceSub, Int.reduceToNat, Nat.reduceBEq, s5]; rfl, ?_⟩
            rw [if_neg (by omega), hsm]; exact ov
          | true =>
            have hst := stepL_set (n := n) (b := b) (v := vl) (m := i) hlb hin hls
            have hsto := store_pair (h := g) id i true (stepL n b vl i) (nth vl i).1 (nth vl i).2 (by rw [hsl]; exact hin)
            rw [hst] at hsto
            simp (disch := first | (simp only [go_sem, Bool.and_self, eq_self]; done) | omega | (simp only [gl1, gl2]; omega)) only [go_sem, ↓reduceIte, Nat.reduceEqDiff, Nat.reduceAdd, Nat.reduceMul, Nat.reduceSub, Int.reduceToNat, Nat.reduceBEq, s1, s4, s5, s6, s9, s10, hin, hin', hlen, hnn, hiv, hiv', hbid, hidn, hld, k20, hls, hsto]
            rw [ForK_normal]
            refine ⟨hin, by simp (disch := first | (simp only [go_sem, Bool.and_self, eq_self]; done) | omega | (simp only [gl1, gl2]; omega)) only [go_sem, ↓reduceIte, Nat.reduceEqDiff, Nat.reduceAdd, Nat.reduceMul, Nat.reduceSub, Int.reduceToNat, Nat.reduceBEq, s10], by simp (disch := first | (simp only [go_sem, Bool.and_self, eq_self]; done) | omega | (simp only [gl1, gl2]; omega)) only [go_sem, ↓reduceIte, Nat.reduceEqDiff, Nat.reduceAdd, Nat.reduceMul, Nat.reduceSub, Int.reduceToNat, Nat.reduceBEq, s1], by simp (disch := first | (simp only [go_sem, Bool.and_self, eq_self]; done) | omega | (simp only [gl1, gl2]; omega)) only [go_sem, ↓reduceIte, Nat.reduceEqDiff, Nat.reduceAdd, Nat.reduceMul, Nat.reduceSub, Int.reduceToNat, Nat.reduceBEq, s4], by simp (disch := first | (simp only [go_sem, Bool.and_self, eq_self]; done) | omega | (simp only [gl1, gl2]; omega)) only [go_sem, ↓reduceIte, Nat.reduceEqDiff, Nat.reduceAdd, Nat.reduceMul, Nat.reduceSub, Int.reduceToNat, Nat.reduceBEq, s6], by simp (disch := first | (simp only [go_sem, Bool.and_self, eq_self]; done) | omega | (simp only [gl1, gl2]; omega)) only [go_sem, ↓reduceIte, Nat.reduceEqDiff, Nat.reduceAdd, Nat.reduceMul, Nat.reduceSub, Int.reduceToNat, Nat.reduceBEq, s9], hgn, by simp (disch := first | (simp only [go_sem, Bool.and_self, eq_self]; done) | omega | (simp only [gl1, gl2]; omega)) only [go_sem, ↓reduceIte, Nat.reduceEqDiff, Nat.reduceAdd, Nat.reduceMul, Nat.reduceSub, Int.reduceToNat, Nat.reduceBEq, g0, hidn0], _, by simp (disch := first | (simp only [go_sem, Bool.and_self, eq_self]; done) | omega | (simp only [gl1, gl2]; omega)) only [go_sem, ↓reduceIte, Nat.reduceEqDiff, Nat.reduceAdd, Nat.reduceMul, Nat.reduceSub, Int.reduceToNat, Nat.reduceBEq, s5]; rfl, ?_⟩
            rw [if_neg (by omega)]
            refine .inr ⟨id, hid1, by rw [stepL_len, if_neg hlb], hidn, by simp (disch := first | (simp only [go_sem, Bool.and_self, eq_self]; done) | omega | (simp only [gl1, gl2]; omega)) only [go_sem, ↓reduceIte, Nat.reduceEqDiff, Nat.reduceAdd, Nat.reduceMul, Nat.reduceSub, Int.reduceToNat, Nat.reduceBEq]⟩
      · rintro st g ⟨s1, s4, s6, hgn, g0, v, s5, ov⟩
        simp (disch := first | (simp only [go_sem, Bool.and_self, eq_self]; done) | omega | (simp only [gl1, gl2]; omega)) only [go_sem, ↓reduceIte, Nat.reduceEqDiff, Nat.reduceAdd, Nat.reduceMul, Nat.reduceSub, Int.reduceToNat, Nat.reduceBEq, s1, s4, s5, s6]
        rw [ForK_normal]
        exact ⟨hlt, by simp (disch := first | (simp only [go_sem, Bool.and_self, eq_self]; done) | omega | (simp only [gl1, gl2]; omega)) only [go_sem, ↓reduceIte, Nat.reduceEqDiff, Nat.reduceAdd, Nat.reduceMul, Nat.reduceSub, Int.reduceToNat, Nat.reduceBEq, s6], by simp (disch := first | (simp only [go_sem, Bool.and_self, eq_self]; done) | omega | (simp only [gl1, gl2]; omega)) only [go_sem, ↓reduceIte, Nat.reduceEqDiff, Nat.reduceAdd, Nat.reduceMul, Nat.reduceSub, Int.reduceToNat, Nat.reduceBEq, s1], by simp (disch := first | (simp only [go_sem, Bool.and_self, eq_self]; done) | omega | (simp only [gl1, gl2]; omega)) only [go_sem, ↓reduceIte, Nat.reduceEqDiff, Nat.reduceAdd, Nat.reduceMul, Nat.reduceSub, Int.reduceToNat, Nat.reduceBEq, s4], hgn, g0, v, by simp (disch := first | (simp only [go_sem, Bool.and_self, eq_self]; done) | omega | (simp only [gl1, gl2]; omega)) only [go_sem, ↓reduceIte, Nat.reduceEqDiff, Nat.reduceAdd, Nat.reduceMul, Nat.reduceSub, Int.reduceToNat, Nat.reduceBEq, s5], by rw [hbr]; exact ov⟩
  · rintro st h ⟨s1, s4, hnx, b0, v, s5, ov⟩
    obtain ⟨b, hb⟩ : ∃ b, b = bestL nx pay cost := ⟨_, rfl⟩
    have hbl : b.length = n := by rw [hb, hn]; exact bestL_len C
    rw [← hb] at ov ⊢
    obtain ⟨id, hid1, rfl, hidn, hbid⟩ : ∃ id, 1 ≤ id ∧ v = .sl id 0 n 2 ∧ id < h.nx ∧ h.bl id = some (.cells false true (b.flatMap eP)) := by
      rcases ov with ⟨_, e⟩ | ⟨id, h1, h2, h3, h4⟩
      · have := congrArg List.length e; rw [hbl, List.length_nil] at this; omega
      · exact ⟨id, h1, by rw [h2, hbl], h3, h4⟩
    obtain ⟨B, hB⟩ : ∃ B, B = h.nx := ⟨_, rfl⟩
    rw [← hn]
    simp (disch := first | (simp only [go_sem, Bool.and_self, eq_self]; done) | omega | (simp only [gl1, gl2]; omega)) only [go_sem, ↓reduceIte, Nat.reduceEqDiff, Nat.reduceAdd, Nat.reduceMul, Nat.reduceSub, Int.reduceToNat, Nat.reduceBEq, s1, s4, s5]
    refine WP_cut (fun st g => st 5 = .sl id 0 n 2 ∧ B ≤ g.nx ∧ g.bl id = some (.cells false true (b.flatMap eP)) ∧ ∃ y, st 11 = y ∧ OwnGe B (e1 I) 1 g y (stopsL n pay b n)) ?_ ?_
    · refine WP_for 12 n (fun i st g => st 1 = .ptr 0 0 ∧ st 4 = I n ∧ st 5 = .sl id 0 n 2 ∧ B ≤ g.nx ∧ g.bl 0 = some (.cells false false [LLI nx, LI pay, LI cost]) ∧ g.bl id = some (.cells false true (b.flatMap eP)) ∧ ∃ y, st 11 = y ∧ OwnGe B (e1 I) 1 g y (stopsL n pay b i)) (by simp (disch := first | (simp only [go_sem, Bool.and_self, eq_self]; done) | omega | (simp only [gl1, gl2]; omega)) only [go_sem, ↓reduceIte, Nat.reduceEqDiff, Nat.reduceAdd, Nat.reduceMul, Nat.reduceSub, Int.reduceToNat, Nat.reduceBEq])
        ⟨by simp (disch := first | (simp only [go_sem, Bool.and_self, eq_self]; done) | omega | (simp only [gl1, gl2]; omega)) only [go_sem, ↓reduceIte, Nat.reduceEqDiff, Nat.reduceAdd, Nat.reduceMul, Nat.reduceSub, Int.reduceToNat, Nat.reduceBEq, s1], by simp (disch := first | (simp only [go_sem, Bool.and_self, eq_self]; done) | omega | (simp only [gl1, gl2]; omega)) only [go_sem, ↓reduceIte, Nat.reduceEqDiff, Nat.reduceAdd, Nat.reduceMul, Nat.reduceSub, Int.reduceToNat, Nat.reduceBEq, s4], by simp (disch := first | (simp only [go_sem, Bool.and_self, eq_self]; done) | omega | (simp only [gl1, gl2]; omega)) only [go_sem, ↓reduceIte, Nat.reduceEqDiff, Nat.reduceAdd, Nat.reduceMul, Nat.reduceSub, Int.reduceToNat, Nat.reduceBEq, s5], by omega, b0, hbid, .nil, by simp (disch := first | (simp only [go_sem, Bool.and_self, eq_self]; done) | omega | (simp only [gl1, gl2]; omega)) only [go_sem, ↓reduceIte, Nat.reduceEqDiff, Nat.reduceAdd, Nat.reduceMul, Nat.reduceSub, Int.reduceToNat, Nat.reduceBEq], .inl ⟨rfl, rfl⟩⟩ ?_
      rintro i st g hi s12 ⟨s1, s4, s5, hgn, g0, gid, y, s11, oy⟩
      by_cases hin : i < n
      case neg =>
        have hie : i = n := by omega
        subst hie
        simp (disch := first | (simp only [go_sem, Bool.and_self, eq_self]; done) | omega | (simp only [gl1, gl2]; omega)) only [go_sem, ↓reduceIte, Nat.reduceEqDiff, Nat.reduceAdd, Nat.reduceMul, Nat.reduceSub, Int.reduceToNat, Nat.reduceBEq, s1, s4, s5, s11, s12, hin]
        exact ⟨hgn, gid, _, rfl, oy⟩
      have hin' : (i : Int) < n := by omega
      have hip : i < pay.length := by omega
      have hip' : (i : Int) < pay.length := by omega
      have hld := load_pair (.struct #[{ name := "Num", type := 3, offset := 0, embedded := false, tag := "", pkgPath := "", byteOffset := 0 }, { name := "Den", type := 3, offset := 1, embedded := false, tag := "", pkgPath := "", byteOffset := 8 }]) rfl b i (by omega)
      have l0 : 0 < g.nx := by omega
      have lid : id < g.nx := by omega
      have hfs := filtL_succ (fun i => decide ((nth b i).1 = nth pay i) && decide ((nth b i).2 = 1)) i
      have hfl := filtL_len (fun i => decide ((nth b i).1 = nth pay i) && decide ((nth b i).2 = 1)) i
      obtain ⟨ys, hys⟩ : ∃ ys, ys = stopsL n pay b i := ⟨_, rfl⟩
      have hys2 : filtL (fun i => decide ((nth b i).1 = nth pay i) && decide ((nth b i).2 = 1)) i = ys := hys.symm
      rw [← hys] at oy
      rw [hys2] at hfs hfl
      have hfs3 : stopsL n pay b (i + 1) = if (decide ((nth b i).1 = nth pay i) && decide ((nth b i).2 = 1)) = true then ys ++ [(i : Int)] else ys := hfs
      cases hc : (decide ((nth b i).1 = nth pay i) && decide ((nth b i).2 = 1)) with
      | false =>
        rw [hc] at hfs3
        have hfs4 : stopsL n pay b (i + 1) = ys := hfs3
        simp (disch := first | (simp only [go_sem, Bool.and_self, eq_self]; done) | omega | (simp only [gl1, gl2]; omega)) only [go_sem, ↓reduceIte, Nat.reduceEqDiff, Nat.reduceAdd, Nat.reduceMul, Nat.reduceSub, Int.reduceToNat, Nat.reduceBEq, s1, s4, s5, s11, s12, hin, hin', hip, hip', g0, gid, l0, lid, hld, hc, List.drop_succ_cons]
        rw [ForK_normal]
        exact ⟨hin, by simp (disch := first | (simp only [go_sem, Bool.and_self, eq_self]; done) | omega | (simp only [gl1, gl2]; omega)) only [go_sem, ↓reduceIte, Nat.reduceEqDiff, Nat.reduceAdd, Nat.reduceMul, Nat.reduceSub, Int.reduceToNat, Nat.reduceBEq, s12], by simp (disch := first | (simp only [go_sem, Bool.and_self, eq_self]; done) | omega | (simp only [gl1, gl2]; omega)) only [go_sem, ↓reduceIte, Nat.reduceEqDiff, Nat.reduceAdd, Nat.reduceMul, Nat.reduceSub, Int.reduceToNat, Nat.reduceBEq, s1], by simp (disch := first | (simp only [go_sem, Bool.and_self, eq_self]; done) | omega | (simp only [gl1, gl2]; omega)) only [go_sem, ↓reduceIte, Nat.reduceEqDiff, Nat.reduceAdd, Nat.reduceMul, Nat.reduceSub, Int.reduceToNat, Nat.reduceBEq, s4], by simp (disch := first | (simp only [go_sem, Bool.and_self, eq_self]; done) | omega | (simp only [gl1, gl2]; omega)) only [go_sem, ↓reduceIte, Nat.reduceEqDiff, Nat.reduceAdd, Nat.reduceMul, Nat.reduceSub, Int.reduceToNat, Nat.reduceBEq, s5], hgn, g0, gid, y, by simp (disch := first | (simp only [go_sem, Bool.and_self, eq_self]; done) | omega | (simp only [gl1, gl2]; omega)) only [go_sem, ↓reduceIte, Nat.reduceEqDiff, Nat.reduceAdd, Nat.reduceMul, Nat.reduceSub, Int.reduceToNat, Nat.reduceBEq, s11], by rw [hfs4]; exact oy⟩
      | true =>
        rw [hc] at hfs3
        have hfs4 : stopsL n pay b (i + 1) = ys ++ [(i : Int)] := hfs3
        have hbs := fun h => bsB_one (P := Try.prog) 3 (I i) (I i) (I 0) h isz3 izero3 rfl rfl rfl rfl rfl rfl rfl
        have happ := app_one (P := Try.prog) oy.own 3 8 (I 0) (i : Int) isz3 ibytes3 izero3 rfl (by omega) (by omega)
        have ln : B ≤ (appH g y ((ys ++ [(i : Int)]).flatMap (e1 I))).nx := by rw [appH_nx]; omega
        have lo : OwnGe B (e1 I) 1 (appH g y ((ys ++ [(i : Int)]).flatMap (e1 I))) (appV g (ys ++ [(i : Int)]).length 1) (stopsL n pay b (i + 1)) := by
          rw [hfs4]
          exact OwnGe.app _ hgn _
        have ll0 : (appH g y ((ys ++ [(i : Int)]).flatMap (e1 I))).bl 0 = some (.cells false false [LLI nx, LI pay, LI cost]) := by rw [oy.low (by omega) (by omega)]; exact g0
        have ll1 : (appH g y ((ys ++ [(i : Int)]).flatMap (e1 I))).bl id = some (.cells false true (b.flatMap eP)) := by rw [oy.low (by omega) (by omega)]; exact gid
        generalize appH g y ((ys ++ [(i : Int)]).flatMap (e1 I)) = G at *
        generalize appV g (ys ++ [(i : Int)]).length 1 = u at *
        simp (disch := first | (simp only [go_sem, Bool.and_self, eq_self]; done) | omega | (simp only [gl1, gl2]; omega)) only [go_sem, ↓reduceIte, Nat.reduceEqDiff, Nat.reduceAdd, Nat.reduceMul, Nat.reduceSub, Int.reduceToNat, Nat.reduceBEq, s1, s4, s5, s11, s12, hin, hin', hip, hip', g0, gid, l0, lid, hld, hc, hbs, happ, List.drop_succ_cons]
        rw [ForK_normal]
        exact ⟨hin, by simp (disch := first | (simp only [go_sem, Bool.and_self, eq_self]; done) | omega | (simp only [gl1, gl2]; omega)) only [go_sem, ↓reduceIte, Nat.reduceEqDiff, Nat.reduceAdd, Nat.reduceMul, Nat.reduceSub, Int.reduceToNat, Nat.reduceBEq, s12], by simp (disch := first | (simp only [go_sem, Bool.and_self, eq_self]; done) | omega | (simp only [gl1, gl2]; omega)) only [go_sem, ↓reduceIte, Nat.reduceEqDiff, Nat.reduceAdd, Nat.reduceMul, Nat.reduceSub, Int.reduceToNat, Nat.reduceBEq, s1], by simp (disch := first | (simp only [go_sem, Bool.and_self, eq_self]; done) | omega | (simp only [gl1, gl2]; omega)) only [go_sem, ↓reduceIte, Nat.reduceEqDiff, Nat.reduceAdd, Nat.reduceMul, Nat.reduceSub, Int.reduceToNat, Nat.reduceBEq, s4], by simp (disch := first | (simp only [go_sem, Bool.and_self, eq_self]; done) | omega | (simp only [gl1, gl2]; omega)) only [go_sem, ↓reduceIte, Nat.reduceEqDiff, Nat.reduceAdd, Nat.reduceMul, Nat.reduceSub, Int.reduceToNat, Nat.reduceBEq, s5], ln, ll0, ll1, _, by simp (disch := first | (simp only [go_sem, Bool.and_self, eq_self]; done) | omega | (simp only [gl1, gl2]; omega)) only [go_sem, ↓reduceIte, Nat.reduceEqDiff, Nat.reduceAdd, Nat.reduceMul, Nat.reduceSub, Int.reduceToNat, Nat.reduceBEq], lo⟩
    · rintro st g ⟨s5, hgn, gid, y, s11, oy⟩
      simp (disch := first | (simp only [go_sem, Bool.and_self, eq_self]; done) | omega | (simp only [gl1, gl2]; omega)) only [go_sem, ↓reduceIte, Nat.reduceEqDiff, Nat.reduceAdd, Nat.reduceMul, Nat.reduceSub, Int.reduceToNat, Nat.reduceBEq, s5, s11]
      have hx := export_own2 28 23 (h := g) (f := eP) (g := e1 I) (v := .sl id 0 n 2) (w := y) (xs := b) (ys := stopsL n pay b n) (.inr ⟨id, by rw [hbl], by omega, gid⟩) oy.own (by
        intro id1 off k s id2 off' k' s' e1 e2
        cases e1
        rcases oy with ⟨e3, _⟩ | ⟨w, h1, e3, _⟩
        · rw [e3] at e2; cases e2
        · rw [e3] at e2; cases e2; omega)
      rw [sealA_sl] at hx
      exact hx
end Go.Proofs.Ytgamcclfdkpcgaa

set_option linter.unusedVariables false
set_option linter.unusedSimpArgs false
set_option maxRecDepth 10000
namespace Go.Proofs.Ytgamcclfdkpcgaa
open Go Go.Am

variable {h h' : Hp} {K : AV → Hp → Prop}

theorem ways_of {nx : List (List Int)} {pay cost : List Int} (C : okC nx pay cost) : Ways (chA nx pay cost) nx.length (sndB nx.length (wF nx)) (supB nx.length (wF nx) (pF pay) (pF cost)) (eqR nx pay cost) (valL nx pay cost) :=
  ⟨f54_con C, fun x _ => f56_con C x, fun x _ => ⟨_, rfl, matA_pure _⟩, fun x h => f55_con C x (sndB_iff.1 h), fun x h => f69_con C x (sndB_iff.1 h)⟩
theorem f49_pure {nx : List (List Int)} {pay cost : List Int} (C : okC nx pay cost) : PureOk Try.prog 49 [chA nx pay cost] (LP (bestL nx pay cost)) := best_pure nx pay cost C.n6 (ways_of C)
def BestRel (args : List AV) (r : AV) : Prop := ∃ nx pay cost, okC nx pay cost ∧ args = [chA nx pay cost] ∧ r = LP (bestL nx pay cost)
theorem map_inj {α β : Type} {f : α → β} (hf : ∀ a b, f a = f b → a = b) : ∀ {xs ys : List α}, xs.map f = ys.map f → xs = ys
  | [], [], _ => rfl
  | [], _ :: _, h => by cases h
  | _ :: _, [], h => by cases h
  | x :: xs, y :: ys, h => by
    simp only [List.map_cons, List.cons.injEq] at h
    rw [hf _ _ h.1, map_inj hf h.2]
theorem L_inj {α : Type} {f : α → List AV} (hf : ∀ a b, f a = f b → a = b) {xs ys : List α} (h : L f xs = L f ys) : xs = ys := by
  injection h with h; exact map_inj hf h
theorem LI_inj {xs ys : List Int} (h : LI xs = LI ys) : xs = ys := L_inj (fun a b h => by injection h with h; injection h) h
theorem LLI_inj {xs ys : List (List Int)} (h : LLI xs = LLI ys) : xs = ys := L_inj (fun a b h => by injection h with h; exact LI_inj h) h
theorem BestRel.det {args : List AV} {r s : AV} (h : BestRel args r) (k : BestRel args s) : r = s := by
  obtain ⟨a, b, c, _, e, rfl⟩ := h
  obtain ⟨a', b', c', _, e', rfl⟩ := k
  rw [e] at e'
  simp only [List.cons.injEq, AV.agg.injEq, and_true] at e'
  obtain ⟨e1, e2, e3⟩ := e'
  rw [LLI_inj e1, LI_inj e2, LI_inj e3]

def baseX : List Nat := [15, 17, 18, 19, 20, 22, 28, 29, 30, 31, 32, 33, 34, 35, 36, 37, 47, 48, 50, 63, 66]
open Classical in
noncomputable def extX (f : FuncId) (args : List AV) : Option AV :=
  if f = 49 then (if h : ∃ r, BestRel args r then some h.choose else none)
  else if f = 21 then (if args = [] then some (.bool true) else none)
  else if baseX.contains f = true then (if h : ∃ r, Con Try.prog cfg f args r then some h.choose else none) else none
noncomputable def cfgX : Cfg := { cfg with ext := extX }
theorem hextX : ExtOk Try.prog cfgX := by
  intro f args r he
  have he : extX f args = some r := he
  unfold extX at he
  split at he
  · rename_i h49
    split at he
    · rename_i h
      cases he
      obtain ⟨nx, pay, cost, C, e, er⟩ := h.choose_spec
      subst h49
      rw [er, e]
      exact ⟨f49_pure C, fun _ => pure_L _⟩
    · cases he
  split at he
  · rename_i h21
    split at he
    · rename_i hn
      cases he
      subst h21; subst hn
      exact ⟨f21_pure, fun _ => rfl⟩
    · cases he
  split at he
  · rename_i hbase
    split at he
    · rename_i h
      cases he
      obtain ⟨k, hk⟩ := h.choose_spec
      exact ⟨(sound hext0 k).2.2.1 _ _ _ hk, fun ho => callP_pure (P := Try.prog) (cfg := cfg) (fun _ _ _ h => by cases h) rfl hk⟩
    · cases he
  · cases he
theorem liftX {f : FuncId} {args : List AV} {r : AV} (hb : (decide (f = 49) || (decide (f = 21) || !baseX.contains f)) = false) (hc : Con Try.prog cfg f args r) : Con Try.prog cfgX f args r := by
  simp only [Bool.or_eq_false_iff, decide_eq_false_iff_not, Bool.not_eq_false'] at hb
  refine ⟨1, ?_⟩
  have : extX f args = some r := by
    unfold extX
    have hex : ∃ r, Con Try.prog cfg f args r := ⟨r, hc⟩
    rw [if_neg hb.1, if_neg hb.2.1, if_pos hb.2.2, dif_pos hex]
    obtain ⟨k, hk⟩ := hex.choose_spec
    obtain ⟨k', hk'⟩ := hc
    rw [callP_det hk hk']
  show (match extX f args with | some r => some r | none => _) = _
  rw [this]
theorem awakeX : Con Try.prog cfgX 21 [] (.bool true) := by
  refine ⟨1, ?_⟩
  have : cfgX.ext 21 [] = some (.bool true) := by
    show extX 21 [] = _
    unfold extX
    rw [if_neg (by decide), if_pos rfl, if_pos rfl]
  simp only [callP, this]
theorem bestX {nx : List (List Int)} {pay cost : List Int} (C : okC nx pay cost) : Con Try.prog cfgX 49 [chA nx pay cost] (LP (bestL nx pay cost)) := by
  refine ⟨1, ?_⟩
  have hr : BestRel [chA nx pay cost] (LP (bestL nx pay cost)) := ⟨nx, pay, cost, C, rfl, rfl⟩
  have : extX 49 [chA nx pay cost] = some (LP (bestL nx pay cost)) := by
    unfold extX
    have hex : ∃ r, BestRel [chA nx pay cost] r := ⟨_, hr⟩
    rw [if_pos rfl, dif_pos hex, BestRel.det hex.choose_spec hr]
  show (match extX 49 [chA nx pay cost] with | some r => some r | none => _) = _
  rw [this]
@[go_sem] theorem shr49 : cfg.shared 49 = false := by kernel_rfl
@[go_sem] theorem kX21 : ConW Try.prog cfgX 21 h (some ([], h')) K = K (.bool true) h := ConW_num awakeX rfl
@[go_sem] theorem cfgX_strict (a b : Nat) : cfgX.strict a b = cfg.strict a b := rfl
@[go_sem] theorem cfgX_shared (f : Nat) : cfgX.shared f = cfg.shared f := rfl
@[go_sem] theorem cfgX_own (f : Nat) : cfgX.own f = cfg.own f := rfl
@[go_sem] theorem cfgX_kn (f : Nat) : cfgX.keepNil f = cfg.keepNil f := rfl
@[go_sem] theorem cfgX_wr (a b : Nat) : cfgX.wr a b = cfg.wr a b := rfl
theorem okX8 : funcOk cfgX Try.f8 (Try.f8.body.getD .skip) = true := by kernel_rfl
theorem okX9 : funcOk cfgX Try.f9 (Try.f9.body.getD .skip) = true := by kernel_rfl
theorem okX13 : funcOk cfgX Try.f13 (Try.f13.body.getD .skip) = true := by kernel_rfl
theorem okX14 : funcOk cfgX Try.f14 (Try.f14.body.getD .skip) = true := by kernel_rfl
theorem okX16 : funcOk cfgX Try.f16 (Try.f16.body.getD .skip) = true := by kernel_rfl
theorem okX46 : funcOk cfgX Try.f46 (Try.f46.body.getD .skip) = true := by kernel_rfl
end Go.Proofs.Ytgamcclfdkpcgaa

set_option linter.unusedVariables false
set_option linter.unusedSimpArgs false
set_option maxRecDepth 10000
namespace Go.Proofs.Ytgamcclfdkpcgaa
open Go Go.Am

variable {h h' : Hp} {K : AV → Hp → Prop}

theorem f33_con (a b : List (Int × Int)) (ha : a.length ≤ maxLen) (hb : b.length ≤ maxLen) : Con Try.prog cfg 33 [LP a, LP b] (.bool (decide (a = b))) := by
  have ml : maxLen = 9223372036854775807 := by decide
  by_cases hl : a.length = b.length
  case neg =>
    have hr : decide (a = b) = false := decide_eq_false fun h => hl (by rw [h])
    rw [hr]
    refine Con_intro Try.func33 rfl ok33 (Nat.le_of_ble_eq_true rfl) rfl ?_
    simp only [Try.f33, Option.getD_some, initSt2]
    simp (disch := first | (simp only [go_sem, Bool.and_self, eq_self]; done) | omega | (simp only [gl1, gl2]; omega)) only [go_sem, ↓reduceIte, Nat.reduceEqDiff, Nat.reduceAdd, Nat.reduceMul, Nat.reduceSub, Int.reduceToNat, Nat.reduceBEq, hl]
  have hl' : (a.length : Int) = b.length := by omega
  refine Con_intro Try.func33 rfl ok33 (Nat.le_of_ble_eq_true rfl) rfl ?_
  simp only [Try.f33, Option.getD_some, initSt2]
  simp (disch := first | (simp only [go_sem, Bool.and_self, eq_self]; done) | omega | (simp only [gl1, gl2]; omega)) only [go_sem, ↓reduceIte, Nat.reduceEqDiff, Nat.reduceAdd, Nat.reduceMul, Nat.reduceSub, Int.reduceToNat, Nat.reduceBEq, hl, eq_self, decide_true, Bool.not_true]
  refine WP_for 5 b.length (fun j st h => st 0 = LP a ∧ st 1 = LP b ∧ ∀ k, k < j → nth a k = nth b k) (by simp (disch := first | (simp only [go_sem, Bool.and_self, eq_self]; done) | omega | (simp only [gl1, gl2]; omega)) only [go_sem, ↓reduceIte, Nat.reduceEqDiff, Nat.reduceAdd, Nat.reduceMul, Nat.reduceSub, Int.reduceToNat, Nat.reduceBEq]) ⟨by simp (disch := first | (simp only [go_sem, Bool.and_self, eq_self]; done) | omega | (simp only [gl1, gl2]; omega)) only [go_sem, ↓reduceIte, Nat.reduceEqDiff, Nat.reduceAdd, Nat.reduceMul, Nat.reduceSub, Int.reduceToNat, Nat.reduceBEq], by simp (disch := first | (simp only [go_sem, Bool.and_self, eq_self]; done) | omega | (simp only [gl1, gl2]; omega)) only [go_sem, ↓reduceIte, Nat.reduceEqDiff, Nat.reduceAdd, Nat.reduceMul, Nat.reduceSub, Int.reduceToNat, Nat.reduceBEq], by omega⟩ ?_
  rintro j st h hj s5 ⟨s0, s1, hall⟩
  by_cases hlt : j < b.length
  case neg =>
    have hr : decide (a = b) = true := decide_eq_true (list_ext_nth hl fun k hk => hall k (by omega))
    have hlt' : ¬ j < a.length := by omega
    simp (disch := first | (simp only [go_sem, Bool.and_self, eq_self]; done) | omega | (simp only [gl1, gl2]; omega)) only [go_sem, ↓reduceIte, Nat.reduceEqDiff, Nat.reduceAdd, Nat.reduceMul, Nat.reduceSub, Int.reduceToNat, Nat.reduceBEq, s0, s1, s5, hlt, hlt', hr]
  have hla : j < a.length := by omega
  have hla' : (j : Int) < a.length := by omega
  by_cases hc : nth a j = nth b j
  · have e1 : (nth a j).1 = (nth b j).1 := by rw [hc]
    have e2 : (nth a j).2 = (nth b j).2 := by rw [hc]
    simp (disch := first | (simp only [go_sem, Bool.and_self, eq_self]; done) | omega | (simp only [gl1, gl2]; omega)) only [go_sem, ↓reduceIte, Nat.reduceEqDiff, Nat.reduceAdd, Nat.reduceMul, Nat.reduceSub, Int.reduceToNat, Nat.reduceBEq, s0, s1, s5, hlt, hla, hla', e1, e2, eq_self, decide_true, Bool.not_true]
    rw [ForK_normal]
    refine ⟨hlt, by simp (disch := first | (simp only [go_sem, Bool.and_self, eq_self]; done) | omega | (simp only [gl1, gl2]; omega)) only [go_sem, ↓reduceIte, Nat.reduceEqDiff, Nat.reduceAdd, Nat.reduceMul, Nat.reduceSub, Int.reduceToNat, Nat.reduceBEq, s5], by simp (disch := first | (simp only [go_sem, Bool.and_self, eq_self]; done) | omega | (simp only [gl1, gl2]; omega)) only [go_sem, ↓reduceIte, Nat.reduceEqDiff, Nat.reduceAdd, Nat.reduceMul, Nat.reduceSub, Int.reduceToNat, Nat.reduceBEq, s0], by simp (disch := first | (simp only [go_sem, Bool.and_self, eq_self]; done) | omega | (simp only [gl1, gl2]; omega)) only [go_sem, ↓reduceIte, Nat.reduceEqDiff, Nat.reduceAdd, Nat.reduceMul, Nat.reduceSub, Int.reduceToNat, Nat.reduceBEq, s1], fun k hk => ?_⟩
    by_cases hkj : k = j
    · subst hkj; exact hc
    · exact hall k (by omega)
  · have hr : decide (a = b) = false := decide_eq_false fun h => hc (by rw [h])
    have hd : (decide ((nth a j).1 = (nth b j).1) && decide ((nth a j).2 = (nth b j).2)) = false := by
      rw [Bool.and_eq_false_iff, decide_eq_false_iff_not, decide_eq_false_iff_not]
      by_cases h1 : (nth a j).1 = (nth b j).1
      · right; exact fun h2 => hc (Prod.ext h1 h2)
      · exact .inl h1
    simp (disch := first | (simp only [go_sem, Bool.and_self, eq_self]; done) | omega | (simp only [gl1, gl2]; omega)) only [go_sem, ↓reduceIte, Nat.reduceEqDiff, Nat.reduceAdd, Nat.reduceMul, Nat.reduceSub, Int.reduceToNat, Nat.reduceBEq, s0, s1, s5, hlt, hla, hla', hd, hr]
theorem f66_con (a b : List (Int × Int)) (ha : a.length ≤ maxLen) (hb : b.length ≤ maxLen) : Con Try.prog cfg 66 [LP a, LP b] (.bool (decide (a = b))) := by
  have ml : maxLen = 9223372036854775807 := by decide
  by_cases hl : a.length = b.length
  case neg =>
    have hr : decide (a = b) = false := decide_eq_false fun h => hl (by rw [h])
    rw [hr]
    refine Con_intro Try.func66 rfl ok66 (Nat.le_of_ble_eq_true rfl) rfl ?_
    simp only [Try.f66, Option.getD_some, initSt2]
    simp (disch := first | (simp only [go_sem, Bool.and_self, eq_self]; done) | omega | (simp only [gl1, gl2]; omega)) only [go_sem, ↓reduceIte, Nat.reduceEqDiff, Nat.reduceAdd, Nat.reduceMul, Nat.reduceSub, Int.reduceToNat, Nat.reduceBEq, hl]
  have hl' : (a.length : Int) = b.length := by omega
  refine Con_intro Try.func66 rfl ok66 (Nat.le_of_ble_eq_true rfl) rfl ?_
  simp only [Try.f66, Option.getD_some, initSt2]
  simp (disch := first | (simp only [go_sem, Bool.and_self, eq_self]; done) | omega | (simp only [gl1, gl2]; omega)) only [go_sem, ↓reduceIte, Nat.reduceEqDiff, Nat.reduceAdd, Nat.reduceMul, Nat.reduceSub, Int.reduceToNat, Nat.reduceBEq, hl, eq_self, decide_true, Bool.not_true]
  refine WP_for 13 b.length (fun j st h => st 0 = LP a ∧ st 1 = LP b ∧ st 12 = I b.length ∧ ∀ k, k < j → nth a k = nth b k) (by simp (disch := first | (simp only [go_sem, Bool.and_self, eq_self]; done) | omega | (simp only [gl1, gl2]; omega)) only [go_sem, ↓reduceIte, Nat.reduceEqDiff, Nat.reduceAdd, Nat.reduceMul, Nat.reduceSub, Int.reduceToNat, Nat.reduceBEq]) ⟨by simp (disch := first | (simp only [go_sem, Bool.and_self, eq_self]; done) | omega | (simp only [gl1, gl2]; omega)) only [go_sem, ↓reduceIte, Nat.reduceEqDiff, Nat.reduceAdd, Nat.reduceMul, Nat.reduceSub, Int.reduceToNat, Nat.reduceBEq], by simp (disch := first | (simp only [go_sem, Bool.and_self, eq_self]; done) | omega | (simp only [gl1, gl2]; omega)) only [go_sem, ↓reduceIte, Nat.reduceEqDiff, Nat.reduceAdd, Nat.reduceMul, Nat.reduceSub, Int.reduceToNat, Nat.reduceBEq], by simp (disch := first | (simp only [go_sem, Bool.and_self, eq_self]; done) | omega | (simp only [gl1, gl2]; omega)) only [go_sem, ↓reduceIte, Nat.reduceEqDiff, Nat.reduceAdd, Nat.reduceMul, Nat.reduceSub, Int.reduceToNat, Nat.reduceBEq, hl], by omega⟩ ?_
  rintro j st h hj s13 ⟨s0, s1, s12, hall⟩
  by_cases hlt : j < b.length
  case neg =>
    have hr : decide (a = b) = true := decide_eq_true (list_ext_nth hl fun k hk => hall k (by omega))
    simp (disch := first | (simp only [go_sem, Bool.and_self, eq_self]; done) | omega | (simp only [gl1, gl2]; omega)) only [go_sem, ↓reduceIte, Nat.reduceEqDiff, Nat.reduceAdd, Nat.reduceMul, Nat.reduceSub, Int.reduceToNat, Nat.reduceBEq, s0, s1, s12, s13, hlt, hr]
  have hla : j < a.length := by omega
  have hla' : (j : Int) < a.length := by omega
  by_cases hc : nth a j = nth b j
  · have e1 : (nth a j).1 = (nth b j).1 := by rw [hc]
    have e2 : (nth a j).2 = (nth b j).2 := by rw [hc]
    simp (disch := first | (simp only [go_sem, Bool.and_self, eq_self]; done) | omega | (simp only [gl1, gl2]; omega)) only [go_sem, ↓reduceIte, Nat.reduceEqDiff, Nat.reduceAdd, Nat.reduceMul, Nat.reduceSub, Int.reduceToNat, Nat.reduceBEq, s0, s1, s12, s13, hlt, hla, hla', e1, e2, eq_self, decide_true, Bool.not_true]
    rw [ForK_normal]
    refine ⟨hlt, by simp (disch := first | (simp only [go_sem, Bool.and_self, eq_self]; done) | omega | (simp only [gl1, gl2]; omega)) only [go_sem, ↓reduceIte, Nat.reduceEqDiff, Nat.reduceAdd, Nat.reduceMul, Nat.reduceSub, Int.reduceToNat, Nat.reduceBEq, s13], by simp (disch := first | (simp only [go_sem, Bool.and_self, eq_self]; done) | omega | (simp only [gl1, gl2]; omega)) only [go_sem, ↓reduceIte, Nat.reduceEqDiff, Nat.reduceAdd, Nat.reduceMul, Nat.reduceSub, Int.reduceToNat, Nat.reduceBEq, s0], by simp (disch := first | (simp only [go_sem, Bool.and_self, eq_self]; done) | omega | (simp only [gl1, gl2]; omega)) only [go_sem, ↓reduceIte, Nat.reduceEqDiff, Nat.reduceAdd, Nat.reduceMul, Nat.reduceSub, Int.reduceToNat, Nat.reduceBEq, s1], by simp (disch := first | (simp only [go_sem, Bool.and_self, eq_self]; done) | omega | (simp only [gl1, gl2]; omega)) only [go_sem, ↓reduceIte, Nat.reduceEqDiff, Nat.reduceAdd, Nat.reduceMul, Nat.reduceSub, Int.reduceToNat, Nat.reduceBEq, s12], fun k hk => ?_⟩
    by_cases hkj : k = j
    · subst hkj; exact hc
    · exact hall k (by omega)
  · have hr : decide (a = b) = false := decide_eq_false fun h => hc (by rw [h])
    have hd : (decide ((nth a j).1 = (nth b j).1) && decide ((nth a j).2 = (nth b j).2)) = false := by
      rw [Bool.and_eq_false_iff, decide_eq_false_iff_not, decide_eq_false_iff_not]
      by_cases h1 : (nth a j).1 = (nth b j).1
      · right; exact fun h2 => hc (Prod.ext h1 h2)
      · exact .inl h1
    simp (disch := first | (simp only [go_sem, Bool.and_self, eq_self]; done) | omega | (simp only [gl1, gl2]; omega)) only [go_sem, ↓reduceIte, Nat.reduceEqDiff, Nat.reduceAdd, Nat.reduceMul, Nat.reduceSub, Int.reduceToNat, Nat.reduceBEq, s0, s1, s12, s13, hlt, hla, hla', hd, hr]
theorem f22_con (a b : List Int) (ha : a.length ≤ maxLen) (hb : b.length ≤ maxLen) : Con Try.prog cfg 22 [LI a, LI b] (.bool (decide (a = b))) := by
  have ml : maxLen = 9223372036854775807 := by decide
  by_cases hl : a.length = b.length
  case neg =>
    have hr : decide (a = b) = false := decide_eq_false fun h => hl (by rw [h])
    rw [hr]
    refine Con_intro Try.func22 rfl ok22 (Nat.le_of_ble_eq_true rfl) rfl ?_
    simp only [Try.f22, Option.getD_some, initSt2]
    simp (disch := first | (simp only [go_sem, Bool.and_self, eq_self]; done) | omega | (simp only [gl1, gl2]; omega)) only [go_sem, ↓reduceIte, Nat.reduceEqDiff, Nat.reduceAdd, Nat.reduceMul, Nat.reduceSub, Int.reduceToNat, Nat.reduceBEq, hl]
  have hl' : (a.length : Int) = b.length := by omega
  refine Con_intro Try.func22 rfl ok22 (Nat.le_of_ble_eq_true rfl) rfl ?_
  simp only [Try.f22, Option.getD_some, initSt2]
  simp (disch := first | (simp only [go_sem, Bool.and_self, eq_self]; done) | omega | (simp only [gl1, gl2]; omega)) only [go_sem, ↓reduceIte, Nat.reduceEqDiff, Nat.reduceAdd, Nat.reduceMul, Nat.reduceSub, Int.reduceToNat, Nat.reduceBEq, hl, eq_self, decide_true, Bool.not_true]
  refine WP_for 5 b.length (fun j st h => st 0 = LI a ∧ st 1 = LI b ∧ ∀ k, k < j → nth a k = nth b k) (by simp (disch := first | (simp only [go_sem, Bool.and_self, eq_self]; done) | omega | (simp only [gl1, gl2]; omega)) only [go_sem, ↓reduceIte, Nat.reduceEqDiff, Nat.reduceAdd, Nat.reduceMul, Nat.reduceSub, Int.reduceToNat, Nat.reduceBEq]) ⟨by simp (disch := first | (simp only [go_sem, Bool.and_self, eq_self]; done) | omega | (simp only [gl1, gl2]; omega)) only [go_sem, ↓reduceIte, Nat.reduceEqDiff, Nat.reduceAdd, Nat.reduceMul, Nat.reduceSub, Int.reduceToNat, Nat.reduceBEq], by simp (disch := first | (simp only [go_sem, Bool.and_self, eq_self]; done) | omega | (simp only [gl1, gl2]; omega)) only [go_sem, ↓reduceIte, Nat.reduceEqDiff, Nat.reduceAdd, Nat.reduceMul, Nat.reduceSub, Int.reduceToNat, Nat.reduceBEq], by omega⟩ ?_
  rintro j st h hj s5 ⟨s0, s1, hall⟩
  by_cases hlt : j < b.length
  case neg =>
    have hr : decide (a = b) = true := decide_eq_true (list_ext_nth hl fun k hk => hall k (by omega))
    have hlt' : ¬ j < a.length := by omega
    simp (disch := first | (simp only [go_sem, Bool.and_self, eq_self]; done) | omega | (simp only [gl1, gl2]; omega)) only [go_sem, ↓reduceIte, Nat.reduceEqDiff, Nat.reduceAdd, Nat.reduceMul, Nat.reduceSub, Int.reduceToNat, Nat.reduceBEq, s0, s1, s5, hlt, hlt', hr]
  have hla : j < a.length := by omega
  have hla' : (j : Int) < a.length := by omega
  by_cases hc : nth a j = nth b j
  · simp (disch := first | (simp only [go_sem, Bool.and_self, eq_self]; done) | omega | (simp only [gl1, gl2]; omega)) only [go_sem, ↓reduceIte, Nat.reduceEqDiff, Nat.reduceAdd, Nat.reduceMul, Nat.reduceSub, Int.reduceToNat, Nat.reduceBEq, s0, s1, s5, hlt, hla, hla', hc, eq_self, decide_true, Bool.not_true]
    rw [ForK_normal]
    refine ⟨hlt, by simp (disch := first | (simp only [go_sem, Bool.and_self, eq_self]; done) | omega | (simp only [gl1, gl2]; omega)) only [go_sem, ↓reduceIte, Nat.reduceEqDiff, Nat.reduceAdd, Nat.reduceMul, Nat.reduceSub, Int.reduceToNat, Nat.reduceBEq, s5], by simp (disch := first | (simp only [go_sem, Bool.and_self, eq_self]; done) | omega | (simp only [gl1, gl2]; omega)) only [go_sem, ↓reduceIte, Nat.reduceEqDiff, Nat.reduceAdd, Nat.reduceMul, Nat.reduceSub, Int.reduceToNat, Nat.reduceBEq, s0], by simp (disch := first | (simp only [go_sem, Bool.and_self, eq_self]; done) | omega | (simp only [gl1, gl2]; omega)) only [go_sem, ↓reduceIte, Nat.reduceEqDiff, Nat.reduceAdd, Nat.reduceMul, Nat.reduceSub, Int.reduceToNat, Nat.reduceBEq, s1], fun k hk => ?_⟩
    by_cases hkj : k = j
    · subst hkj; exact hc
    · exact hall k (by omega)
  · have hr : decide (a = b) = false := decide_eq_false fun h => hc (by rw [h])
    simp (disch := first | (simp only [go_sem, Bool.and_self, eq_self]; done) | omega | (simp only [gl1, gl2]; omega)) only [go_sem, ↓reduceIte, Nat.reduceEqDiff, Nat.reduceAdd, Nat.reduceMul, Nat.reduceSub, Int.reduceToNat, Nat.reduceBEq, s0, s1, s5, hlt, hla, hla', hc, hr]

/-! ### Fractions that may be given -/
def isVB (f : Int × Int) : Bool := inB f.2 1 1048576 && (inB f.1 (-1099511627776) 1099511627776 && decide (gcdI f.1 f.2 = 1))
theorem f65_con (f : Int × Int) : Con Try.prog cfg 65 [FR f] (.bool (isVB f)) := by
  have hal : ∀ (g : Hp) (x y : Int), allocB g (some (.agg [I x, I y])) = some (.ptr g.nx 0, g.alloc (.cells false false [I x, I y])) := fun g x y => allocB_agg _ rfl
  cases c1 : inB f.2 1 1048576 with
  | false =>
    have hr : isVB f = false := by rw [isVB, c1]; rfl
    rw [hr]
    refine Con_intro Try.func65 rfl ok65 (Nat.le_of_ble_eq_true rfl) rfl ?_
    simp only [Try.f65, Option.getD_some, initSt1]
    simp (disch := first | (simp only [go_sem, Bool.and_self, eq_self]; done) | omega | (simp only [gl1, gl2]; omega)) only [go_sem, ↓reduceIte, Nat.reduceEqDiff, Nat.reduceAdd, Nat.reduceMul, Nat.reduceSub, Int.reduceToNat, Nat.reduceBEq, hal, c1]
  | true =>
  cases c2 : inB f.1 (-1099511627776) 1099511627776 with
  | false =>
    have hr : isVB f = false := by rw [isVB, c2, Bool.false_and, Bool.and_false]
    rw [hr]
    refine Con_intro Try.func65 rfl ok65 (Nat.le_of_ble_eq_true rfl) rfl ?_
    simp only [Try.f65, Option.getD_some, initSt1]
    simp (disch := first | (simp only [go_sem, Bool.and_self, eq_self]; done) | omega | (simp only [gl1, gl2]; omega)) only [go_sem, ↓reduceIte, Nat.reduceEqDiff, Nat.reduceAdd, Nat.reduceMul, Nat.reduceSub, Int.reduceToNat, Nat.reduceBEq, hal, c1, c2]
  | true =>
    have hr : isVB f = decide (gcdI f.1 f.2 = 1) := by rw [isVB, c1, c2]; rfl
    have c1' := c1
    have c2' := c2
    simp only [inB, Bool.and_eq_true, decide_eq_true_eq] at c1' c2'
    have kg := fun h h' K => k79 (h := h) (h' := h') (K := K) f.1 f.2 (by simp only [big]; omega) (by simp only [big]; omega)
    rw [hr]
    refine Con_intro Try.func65 rfl ok65 (Nat.le_of_ble_eq_true rfl) rfl ?_
    simp only [Try.f65, Option.getD_some, initSt1]
    simp (disch := first | (simp only [go_sem, Bool.and_self, eq_self]; done) | omega | (simp only [gl1, gl2]; omega)) only [go_sem, ↓reduceIte, Nat.reduceEqDiff, Nat.reduceAdd, Nat.reduceMul, Nat.reduceSub, Int.reduceToNat, Nat.reduceBEq, hal, c1, c2, kg]
theorem f64_con (f : Int × Int) : Con Try.prog cfg 64 [FR f] (.bool (!isVB f)) := by
  have hal : ∀ (g : Hp) (x y : Int), allocB g (some (.agg [I x, I y])) = some (.ptr g.nx 0, g.alloc (.cells false false [I x, I y])) := fun g x y => allocB_agg _ rfl
  have k65 := fun h h' K => ConW_num (h := h) (h' := h') (K := K) (f65_con f) rfl
  refine Con_intro Try.func64 rfl ok64 (Nat.le_of_ble_eq_true rfl) rfl ?_
  simp only [Try.f64, Option.getD_some, initSt1]
  simp (disch := first | (simp only [go_sem, Bool.and_self, eq_self]; done) | omega | (simp only [gl1, gl2]; omega)) only [go_sem, ↓reduceIte, Nat.reduceEqDiff, Nat.reduceAdd, Nat.reduceMul, Nat.reduceSub, Int.reduceToNat, Nat.reduceBEq, hal, k65]
theorem all_nth' {v : List (Int × Int)} {p : Int × Int → Bool} (h : ∀ i, i < v.length → p (nth v i) = true) : v.all p = true := by
  refine List.all_eq_true.2 fun x hx => ?_
  obtain ⟨i, hi, rfl⟩ := List.getElem_of_mem hx
  rw [← nth_getElem hi]; exact h i hi
theorem f78_con (v : List (Int × Int)) (hv : v.length ≤ maxLen) : ∃ i : Int, Con Try.prog cfg 78 [LP v, .fn 64 []] (I i) ∧ (decide (0 ≤ i)) = !v.all isVB := by
  have ml : maxLen = 9223372036854775807 := by decide
  by_cases hall : v.all isVB = true
  · refine ⟨-1, ?_, by rw [hall]; rfl⟩
    refine Con_intro Try.func78 rfl ok78 (Nat.le_of_ble_eq_true rfl) rfl ?_
    simp only [Try.f78, Option.getD_some, initSt2]
    simp (disch := first | (simp only [go_sem, Bool.and_self, eq_self]; done) | omega | (simp only [gl1, gl2]; omega)) only [go_sem, ↓reduceIte, Nat.reduceEqDiff, Nat.reduceAdd, Nat.reduceMul, Nat.reduceSub, Int.reduceToNat, Nat.reduceBEq]
    refine WP_for 8 v.length (fun j st h => st 0 = LP v ∧ st 1 = .fn 64 [] ∧ st 7 = I v.length) (by simp (disch := first | (simp only [go_sem, Bool.and_self, eq_self]; done) | omega | (simp only [gl1, gl2]; omega)) only [go_sem, ↓reduceIte, Nat.reduceEqDiff, Nat.reduceAdd, Nat.reduceMul, Nat.reduceSub, Int.reduceToNat, Nat.reduceBEq]) ⟨by simp (disch := first | (simp only [go_sem, Bool.and_self, eq_self]; done) | omega | (simp only [gl1, gl2]; omega)) only [go_sem, ↓reduceIte, Nat.reduceEqDiff, Nat.reduceAdd, Nat.reduceMul, Nat.reduceSub, Int.reduceToNat, Nat.reduceBEq], by simp (disch := first | (simp only [go_sem, Bool.and_self, eq_self]; done) | omega | (simp only [gl1, gl2]; omega)) only [go_sem, ↓reduceIte, Nat.reduceEqDiff, Nat.reduceAdd, Nat.reduceMul, Nat.reduceSub, Int.reduceToNat, Nat.reduceBEq], by simp (disch := first | (simp only [go_sem, Bool.and_self, eq_self]; done) | omega | (simp only [gl1, gl2]; omega)) only [go_sem, ↓reduceIte, Nat.reduceEqDiff, Nat.reduceAdd, Nat.reduceMul, Nat.reduceSub, Int.reduceToNat, Nat.reduceBEq]⟩ ?_
    rintro j st h hj s8 ⟨s0, s1, s7⟩
    by_cases hlt : j < v.length
    case neg => simp (disch := first | (simp only [go_sem, Bool.and_self, eq_self]; done) | omega | (simp only [gl1, gl2]; omega)) only [go_sem, ↓reduceIte, Nat.reduceEqDiff, Nat.reduceAdd, Nat.reduceMul, Nat.reduceSub, Int.reduceToNat, Nat.reduceBEq, s0, s1, s7, s8, hlt]
    have hf : isVB (nth v j) = true := List.all_eq_true.1 hall _ (nth_mem hlt)
    have k64 := fun h h' K => ConW_num (h := h) (h' := h') (K := K) (f64_con (nth v j)) rfl
    rw [hf] at k64
    simp (disch := first | (simp only [go_sem, Bool.and_self, eq_self]; done) | omega | (simp only [gl1, gl2]; omega)) only [go_sem, ↓reduceIte, Nat.reduceEqDiff, Nat.reduceAdd, Nat.reduceMul, Nat.reduceSub, Int.reduceToNat, Nat.reduceBEq, s0, s1, s7, s8, hlt, List.append_nil, k64]
    rw [ForK_normal]
    exact ⟨hlt, by simp (disch := first | (simp only [go_sem, Bool.and_self, eq_self]; done) | omega | (simp only [gl1, gl2]; omega)) only [go_sem, ↓reduceIte, Nat.reduceEqDiff, Nat.reduceAdd, Nat.reduceMul, Nat.reduceSub, Int.reduceToNat, Nat.reduceBEq, s8], by simp (disch := first | (simp only [go_sem, Bool.and_self, eq_self]; done) | omega | (simp only [gl1, gl2]; omega)) only [go_sem, ↓reduceIte, Nat.reduceEqDiff, Nat.reduceAdd, Nat.reduceMul, Nat.reduceSub, Int.reduceToNat, Nat.reduceBEq, s0], by simp (disch := first | (simp only [go_sem, Bool.and_self, eq_self]; done) | omega | (simp only [gl1, gl2]; omega)) only [go_sem, ↓reduceIte, Nat.reduceEqDiff, Nat.reduceAdd, Nat.reduceMul, Nat.reduceSub, Int.reduceToNat, Nat.reduceBEq, s1], by simp (disch := first | (simp only [go_sem, Bool.and_self, eq_self]; done) | omega | (simp only [gl1, gl2]; omega)) only [go_sem, ↓reduceIte, Nat.reduceEqDiff, Nat.reduceAdd, Nat.reduceMul, Nat.reduceSub, Int.reduceToNat, Nat.reduceBEq, s7]⟩
  · -- the first one that is none
    have hex : ∃ i, i < v.length ∧ isVB (nth v i) = false ∧ ∀ k, k < i → isVB (nth v k) = true := by
      have : ∀ m, m ≤ v.length → (∀ k, k < m → isVB (nth v k) = true) ∨ ∃ i, i < m ∧ isVB (nth v i) = false ∧ ∀ k, k < i → isVB (nth v k) = true := by
        intro m
        induction m with
        | zero => intro _; left; intro k hk; omega
        | succ m ih =>
          intro hm
          rcases ih (by omega) with h1 | ⟨i, h1, h2⟩
          · cases hb : isVB (nth v m) with
            | true =>
              left; intro k hk
              by_cases hkm : k = m
              · subst hkm; exact hb
              · exact h1 k (by omega)
            | false => exact .inr ⟨m, by omega, hb, h1⟩
          · exact .inr ⟨i, by omega, h2⟩
      rcases this v.length (Nat.le_refl _) with h1 | h1
      · exact (hall (all_nth' h1)).elim
      · exact h1
    obtain ⟨i, hi, hb, hpre⟩ := hex
    refine ⟨i, ?_, by
      have : v.all isVB = false := by simpa using hall
      rw [this]; exact decide_eq_true (by omega)⟩
    refine Con_intro Try.func78 rfl ok78 (Nat.le_of_ble_eq_true rfl) rfl ?_
    simp only [Try.f78, Option.getD_some, initSt2]
    simp (disch := first | (simp only [go_sem, Bool.and_self, eq_self]; done) | omega | (simp only [gl1, gl2]; omega)) only [go_sem, ↓reduceIte, Nat.reduceEqDiff, Nat.reduceAdd, Nat.reduceMul, Nat.reduceSub, Int.reduceToNat, Nat.reduceBEq]
    refine WP_for 8 v.length (fun j st h => st 0 = LP v ∧ st 1 = .fn 64 [] ∧ st 7 = I v.length ∧ j ≤ i) (by simp (disch := first | (simp only [go_sem, Bool.and_self, eq_self]; done) | omega | (simp only [gl1, gl2]; omega)) only [go_sem, ↓reduceIte, Nat.reduceEqDiff, Nat.reduceAdd, Nat.reduceMul, Nat.reduceSub, Int.reduceToNat, Nat.reduceBEq]) ⟨by simp (disch := first | (simp only [go_sem, Bool.and_self, eq_self]; done) | omega | (simp only [gl1, gl2]; omega)) only [go_sem, ↓reduceIte, Nat.reduceEqDiff, Nat.reduceAdd, Nat.reduceMul, Nat.reduceSub, Int.reduceToNat, Nat.reduceBEq], by simp (disch := first | (simp only [go_sem, Bool.and_self, eq_self]; done) | omega | (simp only [gl1, gl2]; omega)) only [go_sem, ↓reduceIte, Nat.reduceEqDiff, Nat.reduceAdd, Nat.reduceMul, Nat.reduceSub, Int.reduceToNat, Nat.reduceBEq], by simp (disch := first | (simp only [go_sem, Bool.and_self, eq_self]; done) | omega | (simp only [gl1, gl2]; omega)) only [go_sem, ↓reduceIte, Nat.reduceEqDiff, Nat.reduceAdd, Nat.reduceMul, Nat.reduceSub, Int.reduceToNat, Nat.reduceBEq], by omega⟩ ?_
    rintro j st h hj s8 ⟨s0, s1, s7, hji⟩
    have hlt : j < v.length := by omega
    have k64 := fun h h' K => ConW_num (h := h) (h' := h') (K := K) (f64_con (nth v j)) rfl
    by_cases he : j = i
    · subst he
      rw [hb] at k64
      simp (disch := first | (simp only [go_sem, Bool.and_self, eq_self]; done) | omega | (simp only [gl1, gl2]; omega)) only [go_sem, ↓reduceIte, Nat.reduceEqDiff, Nat.reduceAdd, Nat.reduceMul, Nat.reduceSub, Int.reduceToNat, Nat.reduceBEq, s0, s1, s7, s8, hlt, List.append_nil, k64]
    · rw [hpre j (by omega)] at k64
      simp (disch := first | (simp only [go_sem, Bool.and_self, eq_self]; done) | omega | (simp only [gl1, gl2]; omega)) only [go_sem, ↓reduceIte, Nat.reduceEqDiff, Nat.reduceAdd, Nat.reduceMul, Nat.reduceSub, Int.reduceToNat, Nat.reduceBEq, s0, s1, s7, s8, hlt, List.append_nil, k64]
      rw [ForK_normal]
      exact ⟨hlt, by simp (disch := first | (simp only [go_sem, Bool.and_self, eq_self]; done) | omega | (simp only [gl1, gl2]; omega)) only [go_sem, ↓reduceIte, Nat.reduceEqDiff, Nat.reduceAdd, Nat.reduceMul, Nat.reduceSub, Int.reduceToNat, Nat.reduceBEq, s8], by simp (disch := first | (simp only [go_sem, Bool.and_self, eq_self]; done) | omega | (simp only [gl1, gl2]; omega)) only [go_sem, ↓reduceIte, Nat.reduceEqDiff, Nat.reduceAdd, Nat.reduceMul, Nat.reduceSub, Int.reduceToNat, Nat.reduceBEq, s0], by simp (disch := first | (simp only [go_sem, Bool.and_self, eq_self]; done) | omega | (simp only [gl1, gl2]; omega)) only [go_sem, ↓reduceIte, Nat.reduceEqDiff, Nat.reduceAdd, Nat.reduceMul, Nat.reduceSub, Int.reduceToNat, Nat.reduceBEq, s1], by simp (disch := first | (simp only [go_sem, Bool.and_self, eq_self]; done) | omega | (simp only [gl1, gl2]; omega)) only [go_sem, ↓reduceIte, Nat.reduceEqDiff, Nat.reduceAdd, Nat.reduceMul, Nat.reduceSub, Int.reduceToNat, Nat.reduceBEq, s7], by omega⟩
theorem f63_con (v : List (Int × Int)) (hv : v.length ≤ maxLen) : Con Try.prog cfg 63 [LP v, .fn 64 []] (.bool (!v.all isVB)) := by
  obtain ⟨i, c78, hi⟩ := f78_con v hv
  have k78 := fun h h' K => ConW_num (h := h) (h' := h') (K := K) c78 rfl
  have hse : ∀ h : Hp, sealA h (.fn 64 []) = some (.fn 64 [], h) := fun _ => rfl
  refine Con_intro Try.func63 rfl ok63 (Nat.le_of_ble_eq_true rfl) rfl ?_
  simp only [Try.f63, Option.getD_some, initSt2]
  simp (disch := first | (simp only [go_sem, Bool.and_self, eq_self]; done) | omega | (simp only [gl1, gl2]; omega)) only [go_sem, ↓reduceIte, Nat.reduceEqDiff, Nat.reduceAdd, Nat.reduceMul, Nat.reduceSub, Int.reduceToNat, Nat.reduceBEq, k78, hse, hi]
end Go.Proofs.Ytgamcclfdkpcgaa
