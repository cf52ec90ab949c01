/-
  Rules for fractions.
  within, gcd, reduced; the reference's.
  Offers: means as whole numbers over powers of 16; the plain laws.
  Fractions that are equal; what they lie between.
  Candidates.
  Offers: copies, tests, means.
  Offers: the program's means.
  Offers: Prophet and Threshold.
  two: run as it stands.
  TopWalk: the configuration in which the whole statement can be run: Chance's answers are put in.
-/
import Derived.Test.YtihnplomlphfjaaTSFacts
import Derived.Test.YtihnplomlphfjaaAmFor
import Derived.Test.YtihnplomlphfjaaTM1
import Derived.Test.YtihnplomlphfjaaAmEnd
import Derived.Test.YtihnplomlphfjaaAmDeep
set_option linter.unusedVariables false
set_option linter.unusedSimpArgs false
set_option maxRecDepth 10000
namespace Go.Proofs.Ytihnplomlphfjaa.S
open Go Go.Am Go.RowKit

variable {c : Cfg} {h h' : Hp} {K : AV → Hp → Prop} {ops : Array Oper} {lim : Option Nat} {st : St}

/-- Two numbers, as a fraction. -/
noncomputable def mk37 (x y : AV) : Option AV := buildB Try.prog (Try.prog.underlying 32) (izero Try.prog 32) [(0, x), (1, y)]
@[go_sem] theorem mk37_I (x y : Int) : mk37 (I x) (I y) = some (.agg [I x, I y]) := by kernel_rfl
noncomputable def eq37 (x y : AV) : Option AV := binA Try.prog .eql 32 x y
noncomputable def ne37 (x y : AV) : Option AV := binA Try.prog .neq 32 x y
@[go_sem] theorem eq37_I (a b c d : Int) : eq37 (.agg [I a, I b]) (.agg [I c, I d]) = some (.bool (decide (a = c) && decide (b = d))) := by
  have : eq37 (.agg [I a, I b]) (.agg [I c, I d]) = some (.bool ((a == c && (b == d && true)) == true)) := by kernel_rfl
  rw [this]; simp [Bool.beq_eq_decide_eq]
@[go_sem] theorem ne37_I (a b c d : Int) : ne37 (.agg [I a, I b]) (.agg [I c, I d]) = some (.bool (!(decide (a = c) && decide (b = d)))) := by
  have : ne37 (.agg [I a, I b]) (.agg [I c, I d]) = some (.bool ((a == c && (b == d && true)) == false)) := by kernel_rfl
  rw [this]; simp [Bool.beq_eq_decide_eq]

@[go_sem] theorem storeC_w2 (id : Nat) (row : Bool) (a b x y : AV) : storeC h id 0 2 (some (.cells false row [a, b])) [x, y] = if (x.isCell && y.isCell) = true then some (.skp, h.put id (some (.cells false row [x, y]))) else none := by
  simp [storeC, setL]
@[go_sem] theorem storeC_w3 (id : Nat) (row : Bool) (a b c x y z : AV) : storeC h id 0 3 (some (.cells false row [a, b, c])) [x, y, z] = if (x.isCell && (y.isCell && z.isCell)) = true then some (.skp, h.put id (some (.cells false row [x, y, z]))) else none := by
  simp [storeC, setL]

@[go_sem] theorem ev_nilmap : ev st (.const (.map none)) = .nilmp := rfl

/-! ### Results that lie in memory -/
def resC (P : Program) (h : Hp) (t : TypeId) : AV → Option AV
  | .ptr id off => loadC (P.underlying t) (isz P t) (cellsAt none h (.ptr id off))
  | _ => none
@[go_sem] theorem resC_ptr (P : Program) (t : TypeId) (id off : Nat) : resC P h t (.ptr id off) = loadC (P.underlying t) (isz P t) (cellsAt none h (.ptr id off)) := rfl
theorem resA_cell (P : Program) (a t : Nat) : resA P h st (.cell a t) = resC P h t (st a) := by
  simp only [resA]
  cases st a <;> try rfl
  rename_i id off
  simp only [resC, loadC, cellsAt, loadA_B]
  cases rd h none id <;> rfl
@[go_sem] theorem resR_c (P : Program) (a t : Nat) : resR P h st [.cell a t] = resC P h t (st a) := by
  simp only [resR, resL, resA_cell]; cases resC P h t (st a) <;> rfl
@[go_sem] theorem resR_ct (P : Program) (a t u : Nat) : resR P h st [.cell a t, .tmp u] = (resC P h t (st a)).bind fun v => some (.tup [v, st u]) := by
  simp only [resR, resL, resA_cell]; cases resC P h t (st a) <;> rfl
/-! ### copy -/
def slId : AV → Nat
  | .sl id _ _ _ => id
  | _ => 0
@[go_sem] theorem slId_sl (id o n s : Nat) : slId (.sl id o n s) = id := rfl
/-! ### A part of an array -/
def sliceC (s : Option Nat) (n off id : Nat) (lo hi : Option AV) (b : Option Blk) (l : Bool) : Option AV :=
  (hiB hi n).bind fun b' => (loB lo b').bind fun a => match s, b with
    | some sz, some (.cells _ false flat) => if off + n * sz ≤ flat.length ∧ n ≤ maxLen ∧ l = true then some (.sl id (off + a * sz) (b' - a) sz) else none
    | _, _ => none
@[go_sem] theorem sliceB_arr (P : Program) (n e id off : Nat) (lo hi : Option AV) : sliceB P (some (.array n e)) (.ptr id off) lo hi h lim = sliceC (isz P e) n off id lo hi (h.bl id) (lims lim id) := rfl
end Go.Proofs.Ytihnplomlphfjaa.S

set_option linter.unusedVariables false
set_option linter.unusedSimpArgs false
set_option maxRecDepth 10000
namespace Go.Proofs.Ytihnplomlphfjaa.S
open Go Go.Am Go.RowKit

variable {h h' : Hp} {K : AV → Hp → Prop}

def inB (n lo hi : Int) : Bool := decide (lo ≤ n) && decide (n ≤ hi)
theorem f50_con (n lo hi : Int) : Con Try.prog cfg 30 [I n, I lo, I hi] (.bool (inB n lo hi)) := by
  by_cases hc : lo ≤ n
  · have : inB n lo hi = decide (n ≤ hi) := by simp [inB, hc]
    rw [this]
    refine Con_intro Try.func30 rfl ok50 (Nat.le_of_ble_eq_true rfl) rfl ?_
    simp only [Try.f30, Option.getD_some, initSt3]
    simp (disch := first | (simp only [go_sem, gb0, eq_self]; done) | omega | (simp only [gl1, gl2]; omega)) only [go_sem, ↓reduceIte, Nat.reduceEqDiff, Nat.reduceAdd, Nat.reduceMul, Nat.reduceSub, Int.reduceToNat, Nat.reduceBEq, hc]
  · have : inB n lo hi = false := by simp [inB, hc]
    rw [this]
    refine Con_intro Try.func30 rfl ok50 (Nat.le_of_ble_eq_true rfl) rfl ?_
    simp only [Try.f30, Option.getD_some, initSt3]
    simp (disch := first | (simp only [go_sem, gb0, eq_self]; done) | omega | (simp only [gl1, gl2]; omega)) only [go_sem, ↓reduceIte, Nat.reduceEqDiff, Nat.reduceAdd, Nat.reduceMul, Nat.reduceSub, Int.reduceToNat, Nat.reduceBEq, hc]
@[go_sem] theorem k50 (n lo hi : Int) : ConW Try.prog cfg 30 h (some ([I n, I lo, I hi], h')) K = K (.bool (inB n lo hi)) h := ConW_num (f50_con n lo hi) rfl

def gcdI (a b : Int) : Int := (Int.gcd a b : Int)
theorem gcdI_step (a b : Int) : gcdI b (a.tmod b) = gcdI a b := by
  unfold gcdI
  rw [Int.gcd_comm a b]
  congr 1
  have h1 : b.gcd (a.tmod b) = b.natAbs.gcd (a.natAbs % b.natAbs) := by
    show b.natAbs.gcd (a.tmod b).natAbs = _
    rw [Int.natAbs_tmod]
  rw [h1, Nat.gcd_comm b.natAbs (a.natAbs % b.natAbs), ← Nat.gcd_rec]
  rfl
theorem gcdI_zero (a : Int) : gcdI a 0 = (a.natAbs : Int) := by
  unfold gcdI; rw [Int.gcd_zero_right]
theorem gcdI_pos {a b : Int} (hb : b ≠ 0) : 0 < gcdI a b := by
  unfold gcdI
  have : Int.gcd a b ≠ 0 := by rw [Ne, Int.gcd_eq_zero_iff]; omega
  omega
abbrev big : Int := 4611686018427387904
theorem tmod_lt_abs (x : Int) {y : Int} (hy : y ≠ 0) : (x.tmod y).natAbs < y.natAbs := by
  rw [Int.natAbs_tmod]; exact Nat.mod_lt _ (by omega)
theorem f79_con (a b : Int) (ha : -big ≤ a ∧ a ≤ big) (hb : -big ≤ b ∧ b ≤ big) : Con Try.prog cfg 48 [I a, I b] (I (gcdI a b)) := by
  refine Con_intro Try.func48 rfl ok79 (Nat.le_of_ble_eq_true rfl) rfl ?_
  simp only [Try.f48, Option.getD_some, initSt2]
  simp (disch := first | (simp only [go_sem, gb0, eq_self]; done) | omega | (simp only [gl1, gl2]; omega)) only [go_sem, ↓reduceIte, Nat.reduceEqDiff, Nat.reduceAdd, Nat.reduceMul, Nat.reduceSub, Int.reduceToNat, Nat.reduceBEq]
  refine WP_cut (fun st h => ∃ x : Int, -big ≤ x ∧ x ≤ big ∧ (x.natAbs : Int) = gcdI a b ∧ st 0 = I x) ?_ ?_
  · refine WP_loopK (fun m st h => ∃ x y : Int, m = y.natAbs ∧ -big ≤ x ∧ x ≤ big ∧ -big ≤ y ∧ y ≤ big ∧ gcdI x y = gcdI a b ∧ st 0 = I x ∧ st 1 = I y) b.natAbs
      ⟨a, b, rfl, ha.1, ha.2, hb.1, hb.2, rfl, by simp (disch := first | (simp only [go_sem, gb0, eq_self]; done) | omega | (simp only [gl1, gl2]; omega)) only [go_sem, ↓reduceIte, Nat.reduceEqDiff, Nat.reduceAdd, Nat.reduceMul, Nat.reduceSub, Int.reduceToNat, Nat.reduceBEq], by simp (disch := first | (simp only [go_sem, gb0, eq_self]; done) | omega | (simp only [gl1, gl2]; omega)) only [go_sem, ↓reduceIte, Nat.reduceEqDiff, Nat.reduceAdd, Nat.reduceMul, Nat.reduceSub, Int.reduceToNat, Nat.reduceBEq]⟩ ?_
    rintro n st h ⟨x, y, rfl, hx0, hx1, hy0, hy1, hgg, s0, s1⟩
    by_cases hy : y = 0
    · subst hy
      rw [gcdI_zero] at hgg
      simp (disch := first | (simp only [go_sem, gb0, eq_self]; done) | omega | (simp only [gl1, gl2]; omega)) only [go_sem, ↓reduceIte, Nat.reduceEqDiff, Nat.reduceAdd, Nat.reduceMul, Nat.reduceSub, Int.reduceToNat, Nat.reduceBEq, s0, s1]
      exact ⟨x, hx0, hx1, hgg, rfl⟩
    have hlt := tmod_lt_abs x hy
    simp (disch := first | (simp only [go_sem, gb0, eq_self]; done) | omega | (simp only [gl1, gl2]; omega)) only [go_sem, ↓reduceIte, Nat.reduceEqDiff, Nat.reduceAdd, Nat.reduceMul, Nat.reduceSub, Int.reduceToNat, Nat.reduceBEq, s0, s1, hy]
    rw [LoopK_normal]
    exact ⟨(x.tmod y).natAbs, hlt, y, x.tmod y, rfl, hy0, hy1, by simp only [big] at *; omega, by simp only [big] at *; omega, (gcdI_step x y).trans hgg, by simp (disch := first | (simp only [go_sem, gb0, eq_self]; done) | omega | (simp only [gl1, gl2]; omega)) only [go_sem, ↓reduceIte, Nat.reduceEqDiff, Nat.reduceAdd, Nat.reduceMul, Nat.reduceSub, Int.reduceToNat, Nat.reduceBEq], by simp (disch := first | (simp only [go_sem, gb0, eq_self]; done) | omega | (simp only [gl1, gl2]; omega)) only [go_sem, ↓reduceIte, Nat.reduceEqDiff, Nat.reduceAdd, Nat.reduceMul, Nat.reduceSub, Int.reduceToNat, Nat.reduceBEq]⟩
  · rintro st h ⟨x, hx0, hx1, hx, s0⟩
    have e1 : max x (0 - x) = gcdI a b := by omega
    simp only [big] at hx0 hx1
    simp (disch := first | (simp only [go_sem, gb0, eq_self]; done) | omega | (simp only [gl1, gl2]; omega)) only [go_sem, ↓reduceIte, Nat.reduceEqDiff, Nat.reduceAdd, Nat.reduceMul, Nat.reduceSub, Int.reduceToNat, Nat.reduceBEq, s0, e1]
theorem k79 (a b : Int) (ha : -big ≤ a ∧ a ≤ big) (hb : -big ≤ b ∧ b ≤ big) : ConW Try.prog cfg 48 h (some ([I a, I b], h')) K = K (I (gcdI a b)) h := ConW_num (f79_con a b ha hb) rfl

/-- A fraction without a common divisor; its denominator is positive. -/
def rdP (a b : Int) : Int × Int := if b < 0 then (-a / gcdI a b, -b / gcdI a b) else (a / gcdI a b, b / gcdI a b)
abbrev FR (q : Int × Int) : AV := .agg [I q.1, I q.2]
theorem gcdI_neg (a b : Int) : gcdI (-a) (-b) = gcdI a b := by simp [gcdI]
theorem tdiv_gcd_l (a b : Int) : a.tdiv (gcdI a b) = a / gcdI a b := Int.tdiv_eq_ediv_of_dvd (Int.gcd_dvd_left a b)
theorem tdiv_gcd_r (a b : Int) : b.tdiv (gcdI a b) = b / gcdI a b := Int.tdiv_eq_ediv_of_dvd (Int.gcd_dvd_right a b)
theorem div_rng {a g : Int} (hg : 0 < g) (hd : g ∣ a) : -(a.natAbs : Int) ≤ a / g ∧ a / g ≤ a.natAbs := by
  obtain ⟨k, rfl⟩ := hd
  rw [Int.mul_ediv_cancel_left k (by omega)]
  have h1 : (g * k).natAbs = g.natAbs * k.natAbs := Int.natAbs_mul g k
  have h2 : k.natAbs ≤ g.natAbs * k.natAbs := Nat.le_mul_of_pos_left _ (by omega)
  rw [h1]; omega
theorem f70_con (a b : Int) (ha : -big ≤ a ∧ a ≤ big) (hb : -big ≤ b ∧ b ≤ big) (hb0 : b ≠ 0) : Con Try.prog cfg 46 [I a, I b] (FR (rdP a b)) := by
  have hg := gcdI_pos (a := a) hb0
  have dl : gcdI a b ∣ a := Int.gcd_dvd_left a b
  have dr : gcdI a b ∣ b := Int.gcd_dvd_right a b
  have g0 : ¬ gcdI a b = 0 := by omega
  have r1 := div_rng hg dl
  have r2 := div_rng hg dr
  simp only [big] at ha hb
  by_cases hn : b < 0
  · have hr : rdP a b = (-a / gcdI a b, -b / gcdI a b) := by simp [rdP, hn]
    have kg := fun h h' K => k79 (h := h) (h' := h') (K := K) (0 - a) (0 - b) (by simp only [big]; omega) (by simp only [big]; omega)
    have e0 : gcdI (0 - a) (0 - b) = gcdI a b := by rw [Int.zero_sub, Int.zero_sub, gcdI_neg]
    rw [e0] at kg
    have t1 : (0 - a).tdiv (gcdI a b) = -a / gcdI a b := by rw [Int.zero_sub, Int.tdiv_eq_ediv_of_dvd ((Int.dvd_neg).2 dl)]
    have t2 : (0 - b).tdiv (gcdI a b) = -b / gcdI a b := by rw [Int.zero_sub, Int.tdiv_eq_ediv_of_dvd ((Int.dvd_neg).2 dr)]
    have q1 := div_rng hg ((Int.dvd_neg).2 dl)
    have q2 := div_rng hg ((Int.dvd_neg).2 dr)
    rw [hr]
    refine Con_intro Try.func46 rfl ok70 (Nat.le_of_ble_eq_true rfl) rfl ?_
    simp only [Try.f46, Option.getD_some, initSt2]
    simp (disch := first | (simp only [go_sem, gb0, eq_self]; done) | omega | (simp only [gl1, gl2]; omega)) only [go_sem, ↓reduceIte, Nat.reduceEqDiff, Nat.reduceAdd, Nat.reduceMul, Nat.reduceSub, Int.reduceToNat, Nat.reduceBEq, hn, kg, t1, t2, g0]
    rfl
  · have hr : rdP a b = (a / gcdI a b, b / gcdI a b) := by simp [rdP, hn]
    have kg := fun h h' K => k79 (h := h) (h' := h') (K := K) a b (by simp only [big]; omega) (by simp only [big]; omega)
    have t1 := tdiv_gcd_l a b
    have t2 := tdiv_gcd_r a b
    rw [hr]
    refine Con_intro Try.func46 rfl ok70 (Nat.le_of_ble_eq_true rfl) rfl ?_
    simp only [Try.f46, Option.getD_some, initSt2]
    simp (disch := first | (simp only [go_sem, gb0, eq_self]; done) | omega | (simp only [gl1, gl2]; omega)) only [go_sem, ↓reduceIte, Nat.reduceEqDiff, Nat.reduceAdd, Nat.reduceMul, Nat.reduceSub, Int.reduceToNat, Nat.reduceBEq, hn, kg, t1, t2, g0]
    rfl
theorem k70 (a b : Int) (ha : -big ≤ a ∧ a ≤ big) (hb : -big ≤ b ∧ b ≤ big) (hb0 : b ≠ 0) : ConW Try.prog cfg 46 h (some ([I a, I b], h')) K = K (FR (rdP a b)) h := ConW_num (f70_con a b ha hb hb0) rfl

/-! ### The reference's -/
end Go.Proofs.Ytihnplomlphfjaa.S

set_option linter.unusedVariables false
set_option linter.unusedSimpArgs false
set_option maxRecDepth 10000
namespace Go.Proofs.Ytihnplomlphfjaa.S
open Go Go.Am

def sumO (o : List (Int × Int)) (F : Int × Int → Int) : Int := sumN (fun i => F (nth o i)) o.length
/-- An offer. -/
structure OffOK (o : List (Int × Int)) : Prop where
  x : ∀ q ∈ o, (0 ≤ q.1 ∧ q.1 ≤ 1000) ∧ (1 ≤ q.2 ∧ q.2 ≤ 16)
  len : o.length ≤ 8
  sum : sumO o (fun q => q.2) = 16

/-! ### The prophet's inequality -/
/-! ### The reference's way to the greatest -/
end Go.Proofs.Ytihnplomlphfjaa.S

set_option linter.unusedVariables false
set_option linter.unusedSimpArgs false
set_option maxRecDepth 10000
namespace Go.Proofs.Ytihnplomlphfjaa.S
open Go Go.Am

end Go.Proofs.Ytihnplomlphfjaa.S

set_option linter.unusedVariables false
set_option linter.unusedSimpArgs false
set_option maxRecDepth 10000
namespace Go.Proofs.Ytihnplomlphfjaa.S
open Go Go.Am Go.RowKit

variable {h h' : Hp} {K : AV → Hp → Prop}

/-- 1/k + 1/(k+1) + ..: m terms. -/
def pS (k : Nat) : Nat → Int × Int
  | 0 => (0, 1)
  | m + 1 => rdP ((pS k m).1 * ((k + m : Nat) : Int) + (pS k m).2) ((pS k m).2 * ((k + m : Nat) : Int))
def chP (n k : Nat) : Int × Int := if k = 0 then rdP 1 n else rdP ((pS k (n - k)).1 * k) ((pS k (n - k)).2 * n)
def okS (q : Int × Int) : Bool := decide (0 ≤ q.1) && (decide (q.1 ≤ 1099511627776) && (decide (1 ≤ q.2) && decide (q.2 ≤ 1099511627776)))
theorem pS_all : ((List.range 19).all fun k => (List.range (20 - k)).all fun m => okS (pS (k + 1) m)) = true := by kernel_rfl
theorem pS_ok {k m : Nat} (h0 : 0 < k) (hm : k + m ≤ 20) (hk : k < 20) : (0 ≤ (pS k m).1 ∧ (pS k m).1 ≤ 1099511627776) ∧ (1 ≤ (pS k m).2 ∧ (pS k m).2 ≤ 1099511627776) := by
  have a := List.all_eq_true.1 pS_all (k - 1) (by simp; omega)
  have b := List.all_eq_true.1 a m (by simp; omega)
  rw [show k - 1 + 1 = k by omega] at b
  simp only [okS, Bool.and_eq_true, decide_eq_true_eq] at b
  exact ⟨⟨b.1, b.2.1⟩, b.2.2⟩
theorem f51_con {n k : Nat} (h1 : 1 ≤ n) (h2 : n ≤ 20) (h3 : k < n) : Con Try.prog cfg 40 [I n, I k] (FR (chP n k)) := by
  by_cases hk : k = 0
  · subst hk
    have kr := fun h h' K => k70 (h := h) (h' := h') (K := K) 1 n (by simp only [big]; omega) (by simp only [big]; omega) (by omega)
    have hr : chP n 0 = rdP 1 n := rfl
    have z0 : decide (((0 : Nat) : Int) = 0) = true := rfl
    rw [hr]
    generalize rdP 1 n = q at *
    refine Con_intro Try.func40 rfl ok51 (Nat.le_of_ble_eq_true rfl) rfl ?_
    simp only [Try.f40, Option.getD_some, initSt2]
    simp (disch := first | (simp only [go_sem, gb0, eq_self]; done) | omega | (simp only [gl1, gl2]; omega)) only [go_sem, ↓reduceIte, Nat.reduceEqDiff, Nat.reduceAdd, Nat.reduceMul, Nat.reduceSub, Int.reduceToNat, Nat.reduceBEq, kr, z0]
    rfl
  have hk0 : ¬ (k : Int) = 0 := by omega
  have hr : chP n k = rdP ((pS k (n - k)).1 * k) ((pS k (n - k)).2 * n) := by simp [chP, hk]
  rw [hr]
  refine Con_intro Try.func40 rfl ok51 (Nat.le_of_ble_eq_true rfl) rfl ?_
  simp only [Try.f40, Option.getD_some, initSt2]
  simp (disch := first | (simp only [go_sem, gb0, eq_self]; done) | omega | (simp only [gl1, gl2]; omega)) only [go_sem, ↓reduceIte, Nat.reduceEqDiff, Nat.reduceAdd, Nat.reduceMul, Nat.reduceSub, Int.reduceToNat, Nat.reduceBEq, hk0]
  refine WP_cut (fun st h => st 0 = I n ∧ st 1 = I k ∧ st 4 = .ptr 0 0 ∧ st 5 = .ptr 1 0 ∧ h.nx = 2 ∧ h.bl 0 = some (.cells false false [I 0, I 0]) ∧ h.bl 1 = some (.cells false false [I (pS k (n - k)).1, I (pS k (n - k)).2])) ?_ ?_
  · refine WP_loopK (fun m st h => ∃ j : Nat, m = n - k - j ∧ j ≤ n - k ∧ st 0 = I n ∧ st 1 = I k ∧ st 4 = .ptr 0 0 ∧ st 5 = .ptr 1 0 ∧ st 6 = I ((k + j : Nat) : Int) ∧ h.nx = 2 ∧ h.bl 0 = some (.cells false false [I 0, I 0]) ∧ h.bl 1 = some (.cells false false [I (pS k j).1, I (pS k j).2])) (n - k)
      ⟨0, rfl, Nat.zero_le _, by simp (disch := first | (simp only [go_sem, gb0, eq_self]; done) | omega | (simp only [gl1, gl2]; omega)) only [go_sem, ↓reduceIte, Nat.reduceEqDiff, Nat.reduceAdd, Nat.reduceMul, Nat.reduceSub, Int.reduceToNat, Nat.reduceBEq], by simp (disch := first | (simp only [go_sem, gb0, eq_self]; done) | omega | (simp only [gl1, gl2]; omega)) only [go_sem, ↓reduceIte, Nat.reduceEqDiff, Nat.reduceAdd, Nat.reduceMul, Nat.reduceSub, Int.reduceToNat, Nat.reduceBEq], by simp (disch := first | (simp only [go_sem, gb0, eq_self]; done) | omega | (simp only [gl1, gl2]; omega)) only [go_sem, ↓reduceIte, Nat.reduceEqDiff, Nat.reduceAdd, Nat.reduceMul, Nat.reduceSub, Int.reduceToNat, Nat.reduceBEq], by simp (disch := first | (simp only [go_sem, gb0, eq_self]; done) | omega | (simp only [gl1, gl2]; omega)) only [go_sem, ↓reduceIte, Nat.reduceEqDiff, Nat.reduceAdd, Nat.reduceMul, Nat.reduceSub, Int.reduceToNat, Nat.reduceBEq], by simp (disch := first | (simp only [go_sem, gb0, eq_self]; done) | omega | (simp only [gl1, gl2]; omega)) only [go_sem, ↓reduceIte, Nat.reduceEqDiff, Nat.reduceAdd, Nat.reduceMul, Nat.reduceSub, Int.reduceToNat, Nat.reduceBEq]; rfl, by simp (disch := first | (simp only [go_sem, gb0, eq_self]; done) | omega | (simp only [gl1, gl2]; omega)) only [go_sem, ↓reduceIte, Nat.reduceEqDiff, Nat.reduceAdd, Nat.reduceMul, Nat.reduceSub, Int.reduceToNat, Nat.reduceBEq], by simp (disch := first | (simp only [go_sem, gb0, eq_self]; done) | omega | (simp only [gl1, gl2]; omega)) only [go_sem, ↓reduceIte, Nat.reduceEqDiff, Nat.reduceAdd, Nat.reduceMul, Nat.reduceSub, Int.reduceToNat, Nat.reduceBEq], by simp (disch := first | (simp only [go_sem, gb0, eq_self]; done) | omega | (simp only [gl1, gl2]; omega)) only [go_sem, ↓reduceIte, Nat.reduceEqDiff, Nat.reduceAdd, Nat.reduceMul, Nat.reduceSub, Int.reduceToNat, Nat.reduceBEq]; rfl⟩ ?_
    rintro m st h ⟨j, rfl, hj, s0, s1, s4, s5, s6, hnx, b0, b1⟩
    by_cases hlt : k + j < n
    case neg =>
      have hlt' : ¬ ((k + j : Nat) : Int) < n := by omega
      have hjj : j = n - k := by omega
      subst hjj
      simp (disch := first | (simp only [go_sem, gb0, eq_self]; done) | omega | (simp only [gl1, gl2]; omega)) only [go_sem, ↓reduceIte, Nat.reduceEqDiff, Nat.reduceAdd, Nat.reduceMul, Nat.reduceSub, Int.reduceToNat, Nat.reduceBEq, s0, s1, s4, s5, s6, hlt', b0, b1]
      exact hnx
    have hlt' : ((k + j : Nat) : Int) < n := by omega
    obtain ⟨p1, p2⟩ := pS_ok (k := k) (m := j) (by omega) (by omega) (by omega)
    obtain ⟨p3, p4⟩ := pS_ok (k := k) (m := j + 1) (by omega) (by omega) (by omega)
    have hstep : pS k (j + 1) = rdP ((pS k j).1 * ((k + j : Nat) : Int) + (pS k j).2) ((pS k j).2 * ((k + j : Nat) : Int)) := rfl
    rw [hstep] at p3 p4
    generalize (pS k j).1 = a at *
    generalize (pS k j).2 = b at *
    obtain ⟨i, hi⟩ : ∃ i : Nat, i = k + j := ⟨_, rfl⟩
    have hib : 1 ≤ i ∧ i ≤ 19 := by omega
    rw [← hi] at s6 hlt' hstep p3 p4
    have m1 : 0 ≤ a * i ∧ a * i ≤ 1099511627776 * 20 := ⟨Int.mul_nonneg p1.1 (by omega), Int.mul_le_mul p1.2 (by omega) (by omega) (by omega)⟩
    have m2 : 0 < b * i ∧ b * i ≤ 1099511627776 * 20 := ⟨Int.mul_pos (by omega) (by omega), Int.mul_le_mul p2.2 (by omega) (by omega) (by omega)⟩
    have kr := fun h h' K => k70 (h := h) (h' := h') (K := K) (a * i + b) (b * i) (by simp only [big]; omega) (by simp only [big]; omega) (by omega)
    generalize rdP (a * i + b) (b * i) = q at *
    simp (disch := first | (simp only [go_sem, gb0, eq_self]; done) | omega | (simp only [gl1, gl2]; omega)) only [go_sem, ↓reduceIte, Nat.reduceEqDiff, Nat.reduceAdd, Nat.reduceMul, Nat.reduceSub, Int.reduceToNat, Nat.reduceBEq, s0, s1, s4, s5, s6, hlt', b0, b1, hnx, kr]
    rw [LoopK_normal]
    exact ⟨n - k - (j + 1), by omega, j + 1, rfl, by omega, by simp (disch := first | (simp only [go_sem, gb0, eq_self]; done) | omega | (simp only [gl1, gl2]; omega)) only [go_sem, ↓reduceIte, Nat.reduceEqDiff, Nat.reduceAdd, Nat.reduceMul, Nat.reduceSub, Int.reduceToNat, Nat.reduceBEq, s0], by simp (disch := first | (simp only [go_sem, gb0, eq_self]; done) | omega | (simp only [gl1, gl2]; omega)) only [go_sem, ↓reduceIte, Nat.reduceEqDiff, Nat.reduceAdd, Nat.reduceMul, Nat.reduceSub, Int.reduceToNat, Nat.reduceBEq, s1], by simp (disch := first | (simp only [go_sem, gb0, eq_self]; done) | omega | (simp only [gl1, gl2]; omega)) only [go_sem, ↓reduceIte, Nat.reduceEqDiff, Nat.reduceAdd, Nat.reduceMul, Nat.reduceSub, Int.reduceToNat, Nat.reduceBEq, s4], by simp (disch := first | (simp only [go_sem, gb0, eq_self]; done) | omega | (simp only [gl1, gl2]; omega)) only [go_sem, ↓reduceIte, Nat.reduceEqDiff, Nat.reduceAdd, Nat.reduceMul, Nat.reduceSub, Int.reduceToNat, Nat.reduceBEq, s5], (by simp (disch := first | (simp only [go_sem, gb0, eq_self]; done) | omega | (simp only [gl1, gl2]; omega)) only [go_sem, ↓reduceIte, Nat.reduceEqDiff, Nat.reduceAdd, Nat.reduceMul, Nat.reduceSub, Int.reduceToNat, Nat.reduceBEq]; congr 1; omega), by simp (disch := first | (simp only [go_sem, gb0, eq_self]; done) | omega | (simp only [gl1, gl2]; omega)) only [go_sem, ↓reduceIte, Nat.reduceEqDiff, Nat.reduceAdd, Nat.reduceMul, Nat.reduceSub, Int.reduceToNat, Nat.reduceBEq, hnx], by simp (disch := first | (simp only [go_sem, gb0, eq_self]; done) | omega | (simp only [gl1, gl2]; omega)) only [go_sem, ↓reduceIte, Nat.reduceEqDiff, Nat.reduceAdd, Nat.reduceMul, Nat.reduceSub, Int.reduceToNat, Nat.reduceBEq, b0], by rw [hstep]; simp (disch := first | (simp only [go_sem, gb0, eq_self]; done) | omega | (simp only [gl1, gl2]; omega)) only [go_sem, ↓reduceIte, Nat.reduceEqDiff, Nat.reduceAdd, Nat.reduceMul, Nat.reduceSub, Int.reduceToNat, Nat.reduceBEq]⟩
  · rintro st h ⟨s0, s1, s4, s5, hnx, b0, b1⟩
    obtain ⟨p1, p2⟩ := pS_ok (k := k) (m := n - k) (by omega) (by omega) (by omega)
    generalize (pS k (n - k)).1 = a at *
    generalize (pS k (n - k)).2 = b at *
    have m1 : 0 ≤ a * k ∧ a * k ≤ 1099511627776 * 20 := ⟨Int.mul_nonneg p1.1 (by omega), Int.mul_le_mul p1.2 (by omega) (by omega) (by omega)⟩
    have m2 : 0 < b * n ∧ b * n ≤ 1099511627776 * 20 := ⟨Int.mul_pos (by omega) (by omega), Int.mul_le_mul p2.2 (by omega) (by omega) (by omega)⟩
    have kr := fun h h' K => k70 (h := h) (h' := h') (K := K) (a * k) (b * n) (by simp only [big]; omega) (by simp only [big]; omega) (by omega)
    generalize rdP (a * k) (b * n) = q at *
    simp (disch := first | (simp only [go_sem, gb0, eq_self]; done) | omega | (simp only [gl1, gl2]; omega)) only [go_sem, ↓reduceIte, Nat.reduceEqDiff, Nat.reduceAdd, Nat.reduceMul, Nat.reduceSub, Int.reduceToNat, Nat.reduceBEq, s0, s1, s4, s5, b0, b1, hnx, kr]
    rfl
theorem k51 {n k : Nat} (h1 : 1 ≤ n) (h2 : n ≤ 20) (h3 : k < n) : ConW Try.prog cfg 40 h (some ([I n, I k], h')) K = K (FR (chP n k)) h := ConW_num (f51_con h1 h2 h3) rfl

/-! ### The reference's -/
end Go.Proofs.Ytihnplomlphfjaa.S

set_option linter.unusedVariables false
set_option linter.unusedSimpArgs false
set_option maxRecDepth 10000
namespace Go.Proofs.Ytihnplomlphfjaa.S
open Go Go.Am

variable {h h' : Hp} {K : AV → Hp → Prop}

instance instLP : RowEnc (e1 LP) 1 := inferInstanceAs (RowEnc (e1 (L eP)) 1)
structure okO (l : List (List (Int × Int))) : Prop where
  len : l.length ≤ maxLen
  row : ∀ o ∈ l, o.length ≤ maxLen
structure smallO (l : List (List (Int × Int))) : Prop where
  len : l.length ≤ 8
  row : ∀ o ∈ l, o.length ≤ 9
def pairB (q : Int × Int) : Bool := (decide (0 ≤ q.1) && decide (q.1 ≤ 1000)) && (decide (1 ≤ q.2) && decide (q.2 ≤ 16))
def offB (o : List (Int × Int)) : Bool := o.all pairB && (decide (o.length ≤ 8) && decide (sumO o (fun q => q.2) = 16))
def offsB (l : List (List (Int × Int))) : Bool := decide (l.length ≤ 6) && l.all offB
theorem OffOK.of {o : List (Int × Int)} (h : offB o = true) : OffOK o := by
  simp only [offB, Bool.and_eq_true, decide_eq_true_eq, List.all_eq_true] at h
  refine ⟨fun q hq => ?_, h.2.1, h.2.2⟩
  have := h.1 q hq
  simp only [pairB, Bool.and_eq_true, decide_eq_true_eq] at this
  omega
theorem offs_ok {l : List (List (Int × Int))} (h : offsB l = true) : l.length ≤ 6 ∧ ∀ o ∈ l, OffOK o := by
  simp only [offsB, Bool.and_eq_true, decide_eq_true_eq, List.all_eq_true] at h
  exact ⟨h.1, fun o ho => OffOK.of (h.2 o ho)⟩
end Go.Proofs.Ytihnplomlphfjaa.S

set_option linter.unusedVariables false
set_option linter.unusedSimpArgs false
set_option maxRecDepth 10000
namespace Go.Proofs.Ytihnplomlphfjaa.S
open Go Go.Am

variable {h h' : Hp} {K : AV → Hp → Prop}

/-! ### The mean of a function -/
end Go.Proofs.Ytihnplomlphfjaa.S

set_option linter.unusedVariables false
set_option linter.unusedSimpArgs false
set_option maxRecDepth 10000
namespace Go.Proofs.Ytihnplomlphfjaa.S
open Go Go.Am

variable {h h' : Hp} {K : AV → Hp → Prop}

structure Offs (l : List (List (Int × Int))) : Prop where
  len : l.length ≤ 6
  ok : ∀ o ∈ l, OffOK o
/-! ### The greatest -/
/-! ### The best rule's gain -/
/-! ### A threshold -/
/-! ### The program's answers -/
theorem Offs.of {l : List (List (Int × Int))} (h : offsB l = true) : Offs l := ⟨(offs_ok h).1, (offs_ok h).2⟩
end Go.Proofs.Ytihnplomlphfjaa.S

set_option linter.unusedVariables false
set_option linter.unusedSimpArgs false
set_option maxRecDepth 10000
namespace Go.Proofs.Ytihnplomlphfjaa
open Go Go.Am

theorem f9_run : callP Try.prog B.cfg 500 9 [] = some (.bool true) := by kernel_rfl
end Go.Proofs.Ytihnplomlphfjaa

set_option linter.unusedVariables false
set_option linter.unusedSimpArgs false
set_option maxRecDepth 10000
namespace Go.Proofs.Ytihnplomlphfjaa
open Go Go.Am

def decL : List (List AV) → Option (List Int)
  | [] => some []
  | [.int .i64 x] :: xs => (decL xs).map (x :: ·)
  | _ => none
def decLL : List (List AV) → Option (List (List Int))
  | [] => some []
  | [.lst r] :: xs => (decL r).bind fun r' => (decLL xs).map (r' :: ·)
  | _ => none
theorem decL_eq : ∀ {xs : List (List AV)} {l : List Int}, decL xs = some l → xs = l.map (e1 I)
  | [], l, h => by cases h; rfl
  | x :: xs, l, h => by
    unfold decL at h
    split at h
    · rename_i e; cases e
    · rename_i y ys e
      cases e
      obtain ⟨l', h1, rfl⟩ := Option.map_eq_some_iff.1 h
      rw [decL_eq h1]; rfl
    · cases h
theorem decLL_eq : ∀ {xs : List (List AV)} {l : List (List Int)}, decLL xs = some l → xs = l.map (e1 LI)
  | [], l, h => by cases h; rfl
  | x :: xs, l, h => by
    unfold decLL at h
    split at h
    · rename_i e; cases e
    · rename_i r ys e
      cases e
      obtain ⟨r', h1, h2⟩ := Option.bind_eq_some_iff.1 h
      obtain ⟨l', h3, rfl⟩ := Option.map_eq_some_iff.1 h2
      rw [decLL_eq h3, decL_eq h1]; rfl
    · cases h
def smallLL (p : List (List Int)) : Bool := decide (p.length ≤ 10) && p.all fun r => decide (r.length ≤ 10)
theorem smallLL_ok {p : List (List Int)} (h : smallLL p = true) : B.okLL p := by
  simp only [smallLL, Bool.and_eq_true, decide_eq_true_eq, List.all_eq_true] at h
  have ml : maxLen = 9223372036854775807 := by decide
  exact ⟨by omega, fun r hr => by have := h.2 r hr; omega⟩
/-- The answers of 'two' and of Chance. -/
def extT (f : FuncId) : List AV → Option AV
  | [] => if f = 9 then some (.bool true) else none
  | [.agg [.lst ps, .lst ts], .lst [[.int .i64 2, .int .i64 1]], .lst []] =>
    if f = 12 then (decLL ps).bind fun p => (decLL ts).bind fun t => if smallLL p && smallLL t then some (B.chanceR p t [(2, 1)] []) else none else none
  | _ => none
def cfgT : Cfg := { own := fun _ => false, keepNil := fun _ => false, shared := fun f => f == 45, ext := extT, strict := S.cfg.strict, wr := S.cfg.wr }
@[go_sem] theorem cfgT_deep : cfgT.deep = false := by kernel_rfl
@[go_sem] theorem cfgT_strict (a b : Nat) : cfgT.strict a b = ((a == 1 && b == 9) || (a == 3 && b == 6) || (a == 7 && b == 15)) := rfl
theorem chance_pureT (p t : List (List Int)) (f g : List (Int × Int)) : (B.chanceR p t f g).isPure = true := by
  unfold B.chanceR
  split
  · split
    · rfl
    · split <;> rfl
  · rfl
theorem hextT : ExtOk Try.prog cfgT := by
  intro f args r he
  have he : extT f args = some r := he
  unfold extT at he
  split at he
  · split at he
    · rename_i hf
      cases he
      subst hf
      exact ⟨(sound (fun _ _ _ h => by cases h) 500).2.2.1 _ _ _ f9_run, fun _ => rfl⟩
    · cases he
  · split at he
    · rename_i hf
      subst hf
      obtain ⟨p, h1, he⟩ := Option.bind_eq_some_iff.1 he
      obtain ⟨t, h2, he⟩ := Option.bind_eq_some_iff.1 he
      split at he
      · rename_i hs
        simp only [Bool.and_eq_true] at hs
        cases he
        rw [decLL_eq h1, decLL_eq h2]
        exact ⟨B.f23_pure p t [(2, 1)] [] (smallLL_ok hs.1) (smallLL_ok hs.2) (by decide) (by decide), fun _ => chance_pureT _ _ _ _⟩
      · cases he
    · cases he
  · cases he

@[go_sem] theorem und49 : Try.prog.underlying 49 = some (.int .u64) := Try.underlying49
@[go_sem] theorem ownT (f : FuncId) : cfgT.own f = false := by kernel_rfl
@[go_sem] theorem knT (f : FuncId) : cfgT.keepNil f = false := by kernel_rfl
@[go_sem] theorem shrT5 : cfgT.shared 5 = false := by kernel_rfl
def ok64 (x : Int) : Prop := -9223372036854775808 ≤ x ∧ x ≤ 9223372036854775807
def modI (x n : Int) : Int := x % 18446744073709551616 % n
theorem modI_bounds (x : Int) {n : Int} (hn : 0 < n) : 0 ≤ modI x n ∧ modI x n < n := ⟨Int.emod_nonneg _ (by omega), Int.emod_lt_of_pos _ hn⟩
/-- The chain of the statement, and its values under the rule that stops at the end. -/
def rowsW (a b : Int) : List (List Int) := [[0, 0, 4 - a, a, 0, 0], [0, 0, 4 - b, b, 0, 0], [0, 0, 0, 0, 4 - a, a], [0, 0, 0, 0, 4 - b, b], [0, 0, 0, 0, 0, 0], [0, 0, 0, 0, 0, 0]]
def chainW (a b : Int) : AV := .agg [LLI (rowsW a b), LI [0, 0, 0, 0, 0, 1], LI [0, 0, 0, 0, 0, 0]]
def frW (x d : Int) : List AV := [I (x / B.gcdI x d), I (d / B.gcdI x d)]
def valsW (a b : Int) : AV := .lst [frW ((4 - a) * a + a * b) 16, frW ((4 - b) * a + b * b) 16, frW a 4, frW b 4, frW 0 1, frW 1 1]
end Go.Proofs.Ytihnplomlphfjaa
