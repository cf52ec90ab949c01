/-
  two: run as it stands.
  Rules for fractions.
  within, gcd, reduced; the reference's.
  Offers: means as whole numbers over powers of 16; the plain laws.
  Fractions that are equal; what they lie between.
  Candidates.
  Offers: copies, tests, means.
  Offers: the program's means.
  Offers: Prophet and Threshold.
  TopProphet: sums over all assignments; the plain law.
  TopWalk: the configuration in which the whole statement can be run: Chance's answers are put in.
  TopProphet: the configuration, and the small functions.
  Several lists that are being built side by side.
  'TopProphet' answers true.
-/
import Derived.Test.YtihnplomlphfjaaTM1
import Derived.Test.YtihnplomlphfjaaTSFacts
import Derived.Test.YtihnplomlphfjaaAmEnd
import Derived.Test.YtihnplomlphfjaaAmFor
import Derived.Test.YtihnplomlphfjaaAmDeep
set_option linter.unusedVariables false
set_option linter.unusedSimpArgs false
set_option maxRecDepth 10000
namespace Go.Proofs.Ytihnplomlphfjaa
open Go Go.Am

theorem f9_run : callP Try.prog B.cfg 500 9 [] = some (.bool true) := by kernel_rfl
end Go.Proofs.Ytihnplomlphfjaa

set_option linter.unusedVariables false
set_option linter.unusedSimpArgs false
set_option maxRecDepth 10000
namespace Go.Proofs.Ytihnplomlphfjaa.S
open Go Go.Am Go.RowKit

variable {c : Cfg} {h h' : Hp} {K : AV → Hp → Prop} {ops : Array Oper} {lim : Option Nat} {st : St}

@[go_sem ↓ high] theorem W_b37z : StepW Try.prog c ops lim (.build 32 #[]) st h K = K (.agg [I 0, I 0]) h := by
  rw [W_build, show buildB Try.prog (Try.prog.underlying 32) (izero Try.prog 32) ((#[] : Array (Nat × Operand)).toList.map fun p => (p.1, ev st p.2)) = some (.agg [I 0, I 0]) by kernel_rfl]
  exact getW_some _
/-- Two numbers, as a fraction. -/
noncomputable def mk37 (x y : AV) : Option AV := buildB Try.prog (Try.prog.underlying 32) (izero Try.prog 32) [(0, x), (1, y)]
@[go_sem ↓ high] theorem W_b37 (a b : Operand) : StepW Try.prog c ops lim (.build 32 #[(0, a), (1, b)]) st h K = getW (mk37 (ev st a) (ev st b)) h K := by
  rw [W_build]; rfl
@[go_sem] theorem mk37_I (x y : Int) : mk37 (I x) (I y) = some (.agg [I x, I y]) := by kernel_rfl
noncomputable def eq37 (x y : AV) : Option AV := binA Try.prog .eql 32 x y
noncomputable def ne37 (x y : AV) : Option AV := binA Try.prog .neq 32 x y
@[go_sem] theorem eq37_I (a b c d : Int) : eq37 (.agg [I a, I b]) (.agg [I c, I d]) = some (.bool (decide (a = c) && decide (b = d))) := by
  have : eq37 (.agg [I a, I b]) (.agg [I c, I d]) = some (.bool ((a == c && (b == d && true)) == true)) := by kernel_rfl
  rw [this]; simp [Bool.beq_eq_decide_eq]
@[go_sem] theorem ne37_I (a b c d : Int) : ne37 (.agg [I a, I b]) (.agg [I c, I d]) = some (.bool (!(decide (a = c) && decide (b = d)))) := by
  have : ne37 (.agg [I a, I b]) (.agg [I c, I d]) = some (.bool ((a == c && (b == d && true)) == false)) := by kernel_rfl
  rw [this]; simp [Bool.beq_eq_decide_eq]

@[go_sem] theorem storeC_w2 (id : Nat) (row : Bool) (a b x y : AV) : storeC h id 0 2 (some (.cells false row [a, b])) [x, y] = if (x.isCell && y.isCell) = true then some (.skp, h.put id (some (.cells false row [x, y]))) else none := by
  simp [storeC, setL]
@[go_sem] theorem storeC_w3 (id : Nat) (row : Bool) (a b c x y z : AV) : storeC h id 0 3 (some (.cells false row [a, b, c])) [x, y, z] = if (x.isCell && (y.isCell && z.isCell)) = true then some (.skp, h.put id (some (.cells false row [x, y, z]))) else none := by
  simp [storeC, setL]

@[go_sem] theorem ev_nilmap : ev st (.const (.map none)) = .nilmp := rfl

/-! ### Results that lie in memory -/
def resC (P : Program) (h : Hp) (t : TypeId) : AV → Option AV
  | .ptr id off => loadC (P.underlying t) (isz P t) (cellsAt none h (.ptr id off))
  | _ => none
@[go_sem] theorem resC_ptr (P : Program) (t : TypeId) (id off : Nat) : resC P h t (.ptr id off) = loadC (P.underlying t) (isz P t) (cellsAt none h (.ptr id off)) := rfl
theorem resA_cell (P : Program) (a t : Nat) : resA P h st (.cell a t) = resC P h t (st a) := by
  simp only [resA]
  cases st a <;> try rfl
  rename_i id off
  simp only [resC, loadC, cellsAt, loadA_B]
  cases rd h none id <;> rfl
@[go_sem] theorem resR_c (P : Program) (a t : Nat) : resR P h st [.cell a t] = resC P h t (st a) := by
  simp only [resR, resL, resA_cell]; cases resC P h t (st a) <;> rfl
@[go_sem] theorem resR_ct (P : Program) (a t u : Nat) : resR P h st [.cell a t, .tmp u] = (resC P h t (st a)).bind fun v => some (.tup [v, st u]) := by
  simp only [resR, resL, resA_cell]; cases resC P h t (st a) <;> rfl
@[go_sem] theorem resR_cct (P : Program) (a t b t' u : Nat) : resR P h st [.cell a t, .cell b t', .tmp u] = (resC P h t (st a)).bind fun v => (resC P h t' (st b)).bind fun v' => some (.tup [v, v', st u]) := by
  simp only [resR, resL, resA_cell]; cases resC P h t (st a) <;> cases resC P h t' (st b) <;> rfl

/-! ### copy -/
def slId : AV → Nat
  | .sl id _ _ _ => id
  | _ => 0
@[go_sem] theorem slId_sl (id o n s : Nat) : slId (.sl id o n s) = id := rfl
def copyC (h : Hp) (u : Option TypeDesc) (s : Option Nat) (x : AV) (b : Option Blk) (ys : Option (List AV)) (m : Option Nat) : Option (AV × Hp) :=
  match u, x with
  | some (.slice _), .sl id off n sz => match s, ys, m, b with
    | some sz', some ys, some m, some (.cells false row flat) =>
      if sz' = sz ∧ 0 < sz ∧ ys.length = m * sz ∧ off + n * sz ≤ flat.length ∧ ys.all AV.isCell then
        some (.int .i64 (min m n : Nat), h.put id (some (.cells false row (setL flat off (ys.take (min m n * sz)))))) else none
    | _, _, _, _ => none
  | _, _ => none
@[go_sem ↓] theorem W_copy (x y : Operand) (t t' : TypeId) : StepW Try.prog c ops lim (.call ⟨.builtin .copy, #[x, y], #[t, t']⟩) st h K =
    getW2 (copyC h (Try.prog.underlying t) (isz Try.prog (match Try.prog.underlying t with | some (.slice e) => e | _ => 0)) (ev st x) (h.bl (slId (ev st x))) (cellsOf h none (ev st y)) (lenA (ev st y))) K := by
  refine StepW_writeOp ?_ rfl rfl rfl fun _ => rfl
  simp only [opWrite, copyC, List.getElem?_toArray, List.getElem?_cons_zero, List.getElem?_cons_succ, Option.map_some]
  generalize ev st x = v
  cases v <;> dsimp only <;> generalize Try.prog.underlying t = u <;> (cases u with
    | none => rfl
    | some d => cases d <;> rfl)
theorem setL_front {α : Type} (f : α → AV) (vs xs : List α) (hl : vs.length ≤ xs.length) : setL (xs.flatMap (e1 f)) 0 (vs.flatMap (e1 f)) = (vs ++ xs.drop vs.length).flatMap (e1 f) := by
  have e : ∀ ys : List α, ys.flatMap (e1 f) = ys.map f := by
    intro ys
    induction ys with
    | nil => rfl
    | cons y ys ih => rw [List.flatMap_cons, ih]; rfl
  rw [e, e, e]
  refine List.ext_getElem? fun j => ?_
  rw [(setL_get (vs.map f) (xs.map f) 0 (by simpa using hl)).2 j]
  simp only [Nat.zero_le, true_and, Nat.zero_add, List.length_map, Nat.sub_zero]
  split
  · rename_i hj
    rw [List.map_append, List.getElem?_append_left (by simpa using hj)]
  · rename_i hj
    rw [List.map_append, List.getElem?_append_right (by simp; omega)]
    simp only [List.getElem?_map, List.length_map, List.getElem?_drop]
    congr 2; omega
@[go_sem] theorem copyC_I (e id n : Nat) (row : Bool) (xs vs : List Int) (hl : xs.length = n) (hv : vs.length ≤ n) :
    copyC h (some (.slice e)) (some 1) (.sl id 0 n 1) (some (.cells false row (xs.flatMap (e1 I)))) (some (vs.flatMap (e1 I))) (some vs.length) =
      some (I vs.length, h.put id (some (.cells false row ((vs ++ xs.drop vs.length).flatMap (e1 I))))) := by
  have h1 : (vs.flatMap (e1 I)).all AV.isCell = true := by
    refine List.all_eq_true.2 fun x hx => ?_
    obtain ⟨a, _, ha⟩ := List.mem_flatMap.1 hx
    simp only [e1, List.mem_singleton] at ha
    subst ha; rfl
  have h2 : min vs.length n = vs.length := by omega
  unfold copyC; dsimp only
  rw [if_pos ⟨rfl, by decide, by rw [flat_len]; omega, by rw [flat_len]; omega, h1⟩, h2, List.take_of_length_le (by rw [flat_len]; omega), setL_front _ _ _ (by omega)]

/-! ### A part of an array -/
def sliceC (s : Option Nat) (n off id : Nat) (lo hi : Option AV) (b : Option Blk) (l : Bool) : Option AV :=
  (hiB hi n).bind fun b' => (loB lo b').bind fun a => match s, b with
    | some sz, some (.cells _ false flat) => if off + n * sz ≤ flat.length ∧ n ≤ maxLen ∧ l = true then some (.sl id (off + a * sz) (b' - a) sz) else none
    | _, _ => none
@[go_sem] theorem sliceB_arr (P : Program) (n e id off : Nat) (lo hi : Option AV) : sliceB P (some (.array n e)) (.ptr id off) lo hi h lim = sliceC (isz P e) n off id lo hi (h.bl id) (lims lim id) := rfl
@[go_sem] theorem sliceC_all (id : Nat) (fz : Bool) (xs : List Int) (hl : xs.length = 10) : sliceC (some 1) 10 0 id none none (some (.cells fz false (xs.flatMap (e1 I)))) true = some (.sl id 0 10 1) := by
  have : (10 : Nat) ≤ maxLen := by decide
  have hfl : (xs.flatMap (e1 I)).length = 10 := by rw [flat_len, hl]
  generalize xs.flatMap (e1 I) = fl at hfl
  simp [sliceC, hiB, loB, hfl, this]
end Go.Proofs.Ytihnplomlphfjaa.S

set_option linter.unusedVariables false
set_option linter.unusedSimpArgs false
set_option maxRecDepth 10000
namespace Go.Proofs.Ytihnplomlphfjaa.S
open Go Go.Am Go.RowKit

variable {h h' : Hp} {K : AV → Hp → Prop}

def inB (n lo hi : Int) : Bool := decide (lo ≤ n) && decide (n ≤ hi)
theorem f50_con (n lo hi : Int) : Con Try.prog cfg 30 [I n, I lo, I hi] (.bool (inB n lo hi)) := by
  by_cases hc : lo ≤ n
  · have : inB n lo hi = decide (n ≤ hi) := by simp [inB, hc]
    rw [this]
    refine Con_intro Try.func30 rfl ok50 (Nat.le_of_ble_eq_true rfl) rfl ?_
    simp only [Try.f30, Option.getD_some, initSt3]
    simp (disch := first | (simp only [go_sem, gb0, eq_self]; done) | omega | (simp only [gl1, gl2]; omega)) only [go_sem, ↓reduceIte, Nat.reduceEqDiff, Nat.reduceAdd, Nat.reduceMul, Nat.reduceSub, Int.reduceToNat, Nat.reduceBEq, hc]
  · have : inB n lo hi = false := by simp [inB, hc]
    rw [this]
    refine Con_intro Try.func30 rfl ok50 (Nat.le_of_ble_eq_true rfl) rfl ?_
    simp only [Try.f30, Option.getD_some, initSt3]
    simp (disch := first | (simp only [go_sem, gb0, eq_self]; done) | omega | (simp only [gl1, gl2]; omega)) only [go_sem, ↓reduceIte, Nat.reduceEqDiff, Nat.reduceAdd, Nat.reduceMul, Nat.reduceSub, Int.reduceToNat, Nat.reduceBEq, hc]
@[go_sem] theorem k50 (n lo hi : Int) : ConW Try.prog cfg 30 h (some ([I n, I lo, I hi], h')) K = K (.bool (inB n lo hi)) h := ConW_num (f50_con n lo hi) rfl

def gcdI (a b : Int) : Int := (Int.gcd a b : Int)
theorem gcdI_step (a b : Int) : gcdI b (a.tmod b) = gcdI a b := by
  unfold gcdI
  rw [Int.gcd_comm a b]
  congr 1
  have h1 : b.gcd (a.tmod b) = b.natAbs.gcd (a.natAbs % b.natAbs) := by
    show b.natAbs.gcd (a.tmod b).natAbs = _
    rw [Int.natAbs_tmod]
  rw [h1, Nat.gcd_comm b.natAbs (a.natAbs % b.natAbs), ← Nat.gcd_rec]
  rfl
theorem gcdI_zero (a : Int) : gcdI a 0 = (a.natAbs : Int) := by
  unfold gcdI; rw [Int.gcd_zero_right]
theorem gcdI_pos {a b : Int} (hb : b ≠ 0) : 0 < gcdI a b := by
  unfold gcdI
  have : Int.gcd a b ≠ 0 := by rw [Ne, Int.gcd_eq_zero_iff]; omega
  omega
abbrev big : Int := 4611686018427387904
theorem tmod_lt_abs (x : Int) {y : Int} (hy : y ≠ 0) : (x.tmod y).natAbs < y.natAbs := by
  rw [Int.natAbs_tmod]; exact Nat.mod_lt _ (by omega)
theorem f79_con (a b : Int) (ha : -big ≤ a ∧ a ≤ big) (hb : -big ≤ b ∧ b ≤ big) : Con Try.prog cfg 48 [I a, I b] (I (gcdI a b)) := by
  refine Con_intro Try.func48 rfl ok79 (Nat.le_of_ble_eq_true rfl) rfl ?_
  simp only [Try.f48, Option.getD_some, initSt2]
  simp (disch := first | (simp only [go_sem, gb0, eq_self]; done) | omega | (simp only [gl1, gl2]; omega)) only [go_sem, ↓reduceIte, Nat.reduceEqDiff, Nat.reduceAdd, Nat.reduceMul, Nat.reduceSub, Int.reduceToNat, Nat.reduceBEq]
  refine WP_cut (fun st h => ∃ x : Int, -big ≤ x ∧ x ≤ big ∧ (x.natAbs : Int) = gcdI a b ∧ st 0 = I x) ?_ ?_
  · refine WP_loopK (fun m st h => ∃ x y : Int, m = y.natAbs ∧ -big ≤ x ∧ x ≤ big ∧ -big ≤ y ∧ y ≤ big ∧ gcdI x y = gcdI a b ∧ st 0 = I x ∧ st 1 = I y) b.natAbs
      ⟨a, b, rfl, ha.1, ha.2, hb.1, hb.2, rfl, by simp (disch := first | (simp only [go_sem, gb0, eq_self]; done) | omega | (simp only [gl1, gl2]; omega)) only [go_sem, ↓reduceIte, Nat.reduceEqDiff, Nat.reduceAdd, Nat.reduceMul, Nat.reduceSub, Int.reduceToNat, Nat.reduceBEq], by simp (disch := first | (simp only [go_sem, gb0, eq_self]; done) | omega | (simp only [gl1, gl2]; omega)) only [go_sem, ↓reduceIte, Nat.reduceEqDiff, Nat.reduceAdd, Nat.reduceMul, Nat.reduceSub, Int.reduceToNat, Nat.reduceBEq]⟩ ?_
    rintro n st h ⟨x, y, rfl, hx0, hx1, hy0, hy1, hgg, s0, s1⟩
    by_cases hy : y = 0
    · subst hy
      rw [gcdI_zero] at hgg
      simp (disch := first | (simp only [go_sem, gb0, eq_self]; done) | omega | (simp only [gl1, gl2]; omega)) only [go_sem, ↓reduceIte, Nat.reduceEqDiff, Nat.reduceAdd, Nat.reduceMul, Nat.reduceSub, Int.reduceToNat, Nat.reduceBEq, s0, s1]
      exact ⟨x, hx0, hx1, hgg, rfl⟩
    have hlt := tmod_lt_abs x hy
    simp (disch := first | (simp only [go_sem, gb0, eq_self]; done) | omega | (simp only [gl1, gl2]; omega)) only [go_sem, ↓reduceIte, Nat.reduceEqDiff, Nat.reduceAdd, Nat.reduceMul, Nat.reduceSub, Int.reduceToNat, Nat.reduceBEq, s0, s1, hy]
    rw [LoopK_normal]
    exact ⟨(x.tmod y).natAbs, hlt, y, x.tmod y, rfl, hy0, hy1, by simp only [big] at *; omega, by simp only [big] at *; omega, (gcdI_step x y).trans hgg, by simp (disch := first | (simp only [go_sem, gb0, eq_self]; done) | omega | (simp only [gl1, gl2]; omega)) only [go_sem, ↓reduceIte, Nat.reduceEqDiff, Nat.reduceAdd, Nat.reduceMul, Nat.reduceSub, Int.reduceToNat, Nat.reduceBEq], by simp (disch := first | (simp only [go_sem, gb0, eq_self]; done) | omega | (simp only [gl1, gl2]; omega)) only [go_sem, ↓reduceIte, Nat.reduceEqDiff, Nat.reduceAdd, Nat.reduceMul, Nat.reduceSub, Int.reduceToNat, Nat.reduceBEq]⟩
  · rintro st h ⟨x, hx0, hx1, hx, s0⟩
    have e1 : max x (0 - x) = gcdI a b := by omega
    simp only [big] at hx0 hx1
    simp (disch := first | (simp only [go_sem, gb0, eq_self]; done) | omega | (simp only [gl1, gl2]; omega)) only [go_sem, ↓reduceIte, Nat.reduceEqDiff, Nat.reduceAdd, Nat.reduceMul, Nat.reduceSub, Int.reduceToNat, Nat.reduceBEq, s0, e1]
theorem k79 (a b : Int) (ha : -big ≤ a ∧ a ≤ big) (hb : -big ≤ b ∧ b ≤ big) : ConW Try.prog cfg 48 h (some ([I a, I b], h')) K = K (I (gcdI a b)) h := ConW_num (f79_con a b ha hb) rfl

/-- A fraction without a common divisor; its denominator is positive. -/
def rdP (a b : Int) : Int × Int := if b < 0 then (-a / gcdI a b, -b / gcdI a b) else (a / gcdI a b, b / gcdI a b)
abbrev FR (q : Int × Int) : AV := .agg [I q.1, I q.2]
theorem gcdI_neg (a b : Int) : gcdI (-a) (-b) = gcdI a b := by simp [gcdI]
theorem tdiv_gcd_l (a b : Int) : a.tdiv (gcdI a b) = a / gcdI a b := Int.tdiv_eq_ediv_of_dvd (Int.gcd_dvd_left a b)
theorem tdiv_gcd_r (a b : Int) : b.tdiv (gcdI a b) = b / gcdI a b := Int.tdiv_eq_ediv_of_dvd (Int.gcd_dvd_right a b)
theorem div_rng {a g : Int} (hg : 0 < g) (hd : g ∣ a) : -(a.natAbs : Int) ≤ a / g ∧ a / g ≤ a.natAbs := by
  obtain ⟨k, rfl⟩ := hd
  rw [Int.mul_ediv_cancel_left k (by omega)]
  have h1 : (g * k).natAbs = g.natAbs * k.natAbs := Int.natAbs_mul g k
  have h2 : k.natAbs ≤ g.natAbs * k.natAbs := Nat.le_mul_of_pos_left _ (by omega)
  rw [h1]; omega
theorem f70_con (a b : Int) (ha : -big ≤ a ∧ a ≤ big) (hb : -big ≤ b ∧ b ≤ big) (hb0 : b ≠ 0) : Con Try.prog cfg 46 [I a, I b] (FR (rdP a b)) := by
  have hg := gcdI_pos (a := a) hb0
  have dl : gcdI a b ∣ a := Int.gcd_dvd_left a b
  have dr : gcdI a b ∣ b := Int.gcd_dvd_right a b
  have g0 : ¬ gcdI a b = 0 := by omega
  have r1 := div_rng hg dl
  have r2 := div_rng hg dr
  simp only [big] at ha hb
  by_cases hn : b < 0
  · have hr : rdP a b = (-a / gcdI a b, -b / gcdI a b) := by simp [rdP, hn]
    have kg := fun h h' K => k79 (h := h) (h' := h') (K := K) (0 - a) (0 - b) (by simp only [big]; omega) (by simp only [big]; omega)
    have e0 : gcdI (0 - a) (0 - b) = gcdI a b := by rw [Int.zero_sub, Int.zero_sub, gcdI_neg]
    rw [e0] at kg
    have t1 : (0 - a).tdiv (gcdI a b) = -a / gcdI a b := by rw [Int.zero_sub, Int.tdiv_eq_ediv_of_dvd ((Int.dvd_neg).2 dl)]
    have t2 : (0 - b).tdiv (gcdI a b) = -b / gcdI a b := by rw [Int.zero_sub, Int.tdiv_eq_ediv_of_dvd ((Int.dvd_neg).2 dr)]
    have q1 := div_rng hg ((Int.dvd_neg).2 dl)
    have q2 := div_rng hg ((Int.dvd_neg).2 dr)
    rw [hr]
    refine Con_intro Try.func46 rfl ok70 (Nat.le_of_ble_eq_true rfl) rfl ?_
    simp only [Try.f46, Option.getD_some, initSt2]
    simp (disch := first | (simp only [go_sem, gb0, eq_self]; done) | omega | (simp only [gl1, gl2]; omega)) only [go_sem, ↓reduceIte, Nat.reduceEqDiff, Nat.reduceAdd, Nat.reduceMul, Nat.reduceSub, Int.reduceToNat, Nat.reduceBEq, hn, kg, t1, t2, g0]
    rfl
  · have hr : rdP a b = (a / gcdI a b, b / gcdI a b) := by simp [rdP, hn]
    have kg := fun h h' K => k79 (h := h) (h' := h') (K := K) a b (by simp only [big]; omega) (by simp only [big]; omega)
    have t1 := tdiv_gcd_l a b
    have t2 := tdiv_gcd_r a b
    rw [hr]
    refine Con_intro Try.func46 rfl ok70 (Nat.le_of_ble_eq_true rfl) rfl ?_
    simp only [Try.f46, Option.getD_some, initSt2]
    simp (disch := first | (simp only [go_sem, gb0, eq_self]; done) | omega | (simp only [gl1, gl2]; omega)) only [go_sem, ↓reduceIte, Nat.reduceEqDiff, Nat.reduceAdd, Nat.reduceMul, Nat.reduceSub, Int.reduceToNat, Nat.reduceBEq, hn, kg, t1, t2, g0]
    rfl
theorem k70 (a b : Int) (ha : -big ≤ a ∧ a ≤ big) (hb : -big ≤ b ∧ b ≤ big) (hb0 : b ≠ 0) : ConW Try.prog cfg 46 h (some ([I a, I b], h')) K = K (FR (rdP a b)) h := ConW_num (f70_con a b ha hb hb0) rfl

/-! ### The reference's -/
end Go.Proofs.Ytihnplomlphfjaa.S

set_option linter.unusedVariables false
set_option linter.unusedSimpArgs false
set_option maxRecDepth 10000
namespace Go.Proofs.Ytihnplomlphfjaa.S
open Go Go.Am

def sumO (o : List (Int × Int)) (F : Int × Int → Int) : Int := sumN (fun i => F (nth o i)) o.length
theorem sumN_le {f g : Nat → Int} : ∀ {n : Nat}, (∀ i, i < n → f i ≤ g i) → sumN f n ≤ sumN g n
  | 0, _ => Int.le_refl _
  | n + 1, h => Int.add_le_add (sumN_le fun i hi => h i (by omega)) (h n (by omega))
theorem sumN_add (f g : Nat → Int) : ∀ n, sumN (fun i => f i + g i) n = sumN f n + sumN g n
  | 0 => rfl
  | n + 1 => by simp only [sumN, sumN_add f g n]; omega
theorem sumN_mul (c : Int) (f : Nat → Int) : ∀ n, sumN (fun i => c * f i) n = c * sumN f n
  | 0 => by simp [sumN]
  | n + 1 => by simp only [sumN, sumN_mul c f n, Int.mul_add]
theorem sumN_zero : ∀ n, sumN (fun _ => 0) n = 0
  | 0 => rfl
  | n + 1 => by simp [sumN, sumN_zero n]
theorem sumO_le {o : List (Int × Int)} {F G : Int × Int → Int} (h : ∀ q ∈ o, F q ≤ G q) : sumO o F ≤ sumO o G := sumN_le fun i hi => h _ (nth_mem hi)
theorem sumO_mul (c : Int) (o : List (Int × Int)) (F : Int × Int → Int) : sumO o (fun q => c * F q) = c * sumO o F := sumN_mul c _ _
theorem sumO_nonneg {o : List (Int × Int)} {F : Int × Int → Int} (h : ∀ q ∈ o, 0 ≤ F q) : 0 ≤ sumO o F := by
  have := sumN_le (f := fun _ => 0) (g := fun i => F (nth o i)) (n := o.length) fun i hi => h _ (nth_mem hi)
  rwa [sumN_zero] at this

/-- An offer. -/
structure OffOK (o : List (Int × Int)) : Prop where
  x : ∀ q ∈ o, (0 ≤ q.1 ∧ q.1 ≤ 1000) ∧ (1 ≤ q.2 ∧ q.2 ≤ 16)
  len : o.length ≤ 8
  sum : sumO o (fun q => q.2) = 16

/-- The mean of the greatest, of the best rule's gain, of a threshold's: as parts of a power of 16. -/
def pw (n : Nat) : Int := 16 ^ n
theorem pw_succ (n : Nat) : pw (n + 1) = 16 * pw n := by rw [pw, pw, Int.pow_succ, Int.mul_comm]
theorem pw_pos (n : Nat) : 0 < pw n := Int.pow_pos (by decide)
def gI : List (List (Int × Int)) → Int → Int
  | [], most => most
  | o :: os, most => sumO o fun q => q.2 * gI os (max most q.1)
def wI : List (List (Int × Int)) → Int
  | [] => 0
  | o :: os => sumO o fun q => q.2 * max (q.1 * pw os.length) (wI os)
def tI (t : Int) : List (List (Int × Int)) → Int
  | [] => 0
  | o :: os => sumO o fun q => q.2 * (if t ≤ q.1 then q.1 * pw os.length else tI t os)

/-- Weighted means lie between bounds. -/
theorem mean_ge {o : List (Int × Int)} (ho : OffOK o) {F : Int × Int → Int} {c : Int} (h : ∀ q ∈ o, c ≤ F q) : 16 * c ≤ sumO o fun q => q.2 * F q := by
  have h1 : sumO o (fun q => c * q.2) = c * 16 := by rw [sumO_mul, ho.sum]
  have h2 : sumO o (fun q => c * q.2) ≤ sumO o fun q => q.2 * F q := sumO_le fun q hq => by
    rw [Int.mul_comm]; exact Int.mul_le_mul_of_nonneg_left (h q hq) (by have := ho.x q hq; omega)
  omega
theorem mean_le {o : List (Int × Int)} (ho : OffOK o) {F : Int × Int → Int} {c : Int} (h : ∀ q ∈ o, F q ≤ c) : (sumO o fun q => q.2 * F q) ≤ 16 * c := by
  have h1 : sumO o (fun q => c * q.2) = c * 16 := by rw [sumO_mul, ho.sum]
  have h2 : (sumO o fun q => q.2 * F q) ≤ sumO o (fun q => c * q.2) := sumO_le fun q hq => by
    rw [Int.mul_comm c]; exact Int.mul_le_mul_of_nonneg_left (h q hq) (by have := ho.x q hq; omega)
  omega
theorem mean_mono {o : List (Int × Int)} (ho : OffOK o) {F G : Int × Int → Int} (h : ∀ q ∈ o, F q ≤ G q) : (sumO o fun q => q.2 * F q) ≤ sumO o fun q => q.2 * G q :=
  sumO_le fun q hq => Int.mul_le_mul_of_nonneg_left (h q hq) (by have := ho.x q hq; omega)

theorem gI_b {l : List (List (Int × Int))} (hl : ∀ o ∈ l, OffOK o) : ∀ most : Int, 0 ≤ most ∧ most ≤ 1000 → most * pw l.length ≤ gI l most ∧ gI l most ≤ 1000 * pw l.length := by
  induction l with
  | nil => intro most h; simp [gI, pw]; omega
  | cons o os ih =>
    intro most h
    have ho := hl o (by simp)
    have ih' := ih fun o h => hl o (by simp [h])
    have hp := pw_pos os.length
    rw [gI, List.length_cons, pw_succ]
    constructor
    · have := mean_ge ho (F := fun q => gI os (max most q.1)) (c := most * pw os.length) fun q hq => by
        have hx := ho.x q hq
        have h1 := (ih' (max most q.1) (by omega)).1
        have h2 : most * pw os.length ≤ max most q.1 * pw os.length := Int.mul_le_mul_of_nonneg_right (by omega) (by omega)
        exact Int.le_trans h2 h1
      grind
    · have := mean_le ho (F := fun q => gI os (max most q.1)) (c := 1000 * pw os.length) fun q hq => by
        have hx := ho.x q hq
        exact (ih' (max most q.1) (by omega)).2
      grind
theorem gI_ge_wI {l : List (List (Int × Int))} (hl : ∀ o ∈ l, OffOK o) : ∀ most : Int, 0 ≤ most ∧ most ≤ 1000 → wI l ≤ gI l most := by
  induction l with
  | nil => intro most h; simp [gI, wI]; omega
  | cons o os ih =>
    intro most h
    have ho := hl o (by simp)
    have hl' : ∀ o ∈ os, OffOK o := fun o h => hl o (by simp [h])
    have hp := pw_pos os.length
    rw [gI, wI]
    refine mean_mono ho fun q hq => ?_
    have hx := ho.x q hq
    have h1 := (gI_b hl' (max most q.1) (by omega)).1
    have h2 := ih hl' (max most q.1) (by omega)
    have h3 : q.1 * pw os.length ≤ max most q.1 * pw os.length := Int.mul_le_mul_of_nonneg_right (by omega) (by omega)
    omega
theorem wI_b {l : List (List (Int × Int))} (hl : ∀ o ∈ l, OffOK o) : 0 ≤ wI l ∧ wI l ≤ 1000 * pw l.length := by
  constructor
  · cases l with
    | nil => simp [wI]
    | cons o os =>
      have ho := hl o (by simp)
      have hp := pw_pos os.length
      rw [wI]
      refine sumO_nonneg fun q hq => ?_
      have hx := ho.x q hq
      have : 0 ≤ q.1 * pw os.length := Int.mul_nonneg (by omega) (by omega)
      exact Int.mul_nonneg (by omega) (by omega)
  · have h1 := gI_ge_wI hl 0 (by decide)
    have h2 := (gI_b hl 0 (by decide)).2
    omega
theorem tI_b {l : List (List (Int × Int))} (hl : ∀ o ∈ l, OffOK o) (t : Int) : 0 ≤ tI t l ∧ tI t l ≤ wI l := by
  induction l with
  | nil => simp [tI, wI]
  | cons o os ih =>
    have ho := hl o (by simp)
    have ih' := ih fun o h => hl o (by simp [h])
    have hp := pw_pos os.length
    rw [tI, wI]
    constructor
    · refine sumO_nonneg fun q hq => ?_
      have hx := ho.x q hq
      have : 0 ≤ q.1 * pw os.length := Int.mul_nonneg (by omega) (by omega)
      refine Int.mul_nonneg (by omega) ?_
      split <;> omega
    · refine mean_mono ho fun q hq => ?_
      split <;> omega

/-! ### The prophet's inequality -/
/-! ### The reference's way to the greatest -/
end Go.Proofs.Ytihnplomlphfjaa.S

set_option linter.unusedVariables false
set_option linter.unusedSimpArgs false
set_option maxRecDepth 10000
namespace Go.Proofs.Ytihnplomlphfjaa.S
open Go Go.Am

theorem rdP_pos {a b : Int} (hb : 0 < b) : rdP a b = (a / gcdI a b, b / gcdI a b) := by rw [rdP, if_neg (by omega)]
theorem rdP_scale {k : Int} (hk : 0 < k) (a b : Int) (hb : 0 < b) : rdP (k * a) (k * b) = rdP a b := by
  have hg := gcdI_pos (a := a) (b := b) (by omega)
  have e : gcdI (k * a) (k * b) = k * gcdI a b := by
    unfold gcdI
    rw [Int.gcd_mul_left]
    simp only [Int.natCast_mul]
    congr 1; omega
  rw [rdP_pos (Int.mul_pos hk hb), rdP_pos hb, e, Int.mul_ediv_mul_of_pos _ _ hk, Int.mul_ediv_mul_of_pos _ _ hk]
/-- Two fractions that are equal are reduced to the same. -/
theorem rdP_cross {a b c d : Int} (hb : 0 < b) (hd : 0 < d) (h : a * d = c * b) : rdP a b = rdP c d := by
  rw [← rdP_scale hd a b hb, ← rdP_scale hb c d hd, Int.mul_comm d a, h, Int.mul_comm c b, Int.mul_comm d b]
theorem gcdI_dvd (a b : Int) : gcdI a b ∣ a ∧ gcdI a b ∣ b := ⟨Int.gcd_dvd_left a b, Int.gcd_dvd_right a b⟩
/-- A reduced fraction is the same fraction. -/
theorem rdP_val {a b : Int} (hb : 0 < b) : (rdP a b).1 * b = a * (rdP a b).2 := by
  have hg := gcdI_pos (a := a) (b := b) (by omega)
  rw [rdP_pos hb]
  obtain ⟨k, hk⟩ := (gcdI_dvd a b).1
  obtain ⟨m, hm⟩ := (gcdI_dvd a b).2
  generalize gcdI a b = g at *
  subst hk hm
  show g * k / g * (g * m) = g * k * (g * m / g)
  rw [Int.mul_ediv_cancel_left _ (by omega), Int.mul_ediv_cancel_left _ (by omega)]
  grind
theorem rdP_den {a b : Int} (hb : 0 < b) : 0 < (rdP a b).2 ∧ (rdP a b).2 ≤ b := by
  have hg := gcdI_pos (a := a) (b := b) (by omega)
  rw [rdP_pos hb]
  obtain ⟨m, hm⟩ := (gcdI_dvd a b).2
  show 0 < b / gcdI a b ∧ b / gcdI a b ≤ b
  exact ⟨Int.ediv_pos_of_pos_of_dvd hb (by omega) (gcdI_dvd a b).2, Int.ediv_le_self _ (by omega)⟩
theorem rdP_num {a b : Int} (ha : 0 ≤ a) (hb : 0 < b) : 0 ≤ (rdP a b).1 ∧ (rdP a b).1 ≤ a := by
  have hg := gcdI_pos (a := a) (b := b) (by omega)
  rw [rdP_pos hb]
  exact ⟨Int.ediv_nonneg ha (by omega), Int.ediv_le_self _ ha⟩
theorem rdP_one (a : Int) : rdP a 1 = (a, 1) := by
  have : gcdI a 1 = 1 := by unfold gcdI; simp
  rw [rdP_pos (by decide), this]; simp
theorem rdP_zero {b : Int} (hb : 0 < b) : rdP 0 b = (0, 1) := by
  rw [← rdP_one 0]; exact rdP_cross hb (by decide) (by simp)

theorem rdP_whole (x : Int) {D : Int} (hD : 0 < D) : rdP (x * D) D = (x, 1) := by
  rw [← rdP_one x]; exact rdP_cross hD (by decide) (by omega)
end Go.Proofs.Ytihnplomlphfjaa.S

set_option linter.unusedVariables false
set_option linter.unusedSimpArgs false
set_option maxRecDepth 10000
namespace Go.Proofs.Ytihnplomlphfjaa.S
open Go Go.Am Go.RowKit

variable {h h' : Hp} {K : AV → Hp → Prop}

/-- 1/k + 1/(k+1) + ..: m terms. -/
def pS (k : Nat) : Nat → Int × Int
  | 0 => (0, 1)
  | m + 1 => rdP ((pS k m).1 * ((k + m : Nat) : Int) + (pS k m).2) ((pS k m).2 * ((k + m : Nat) : Int))
def chP (n k : Nat) : Int × Int := if k = 0 then rdP 1 n else rdP ((pS k (n - k)).1 * k) ((pS k (n - k)).2 * n)
def okS (q : Int × Int) : Bool := decide (0 ≤ q.1) && (decide (q.1 ≤ 1099511627776) && (decide (1 ≤ q.2) && decide (q.2 ≤ 1099511627776)))
theorem pS_all : ((List.range 19).all fun k => (List.range (20 - k)).all fun m => okS (pS (k + 1) m)) = true := by kernel_rfl
theorem pS_ok {k m : Nat} (h0 : 0 < k) (hm : k + m ≤ 20) (hk : k < 20) : (0 ≤ (pS k m).1 ∧ (pS k m).1 ≤ 1099511627776) ∧ (1 ≤ (pS k m).2 ∧ (pS k m).2 ≤ 1099511627776) := by
  have a := List.all_eq_true.1 pS_all (k - 1) (by simp; omega)
  have b := List.all_eq_true.1 a m (by simp; omega)
  rw [show k - 1 + 1 = k by omega] at b
  simp only [okS, Bool.and_eq_true, decide_eq_true_eq] at b
  exact ⟨⟨b.1, b.2.1⟩, b.2.2⟩
theorem f51_con {n k : Nat} (h1 : 1 ≤ n) (h2 : n ≤ 20) (h3 : k < n) : Con Try.prog cfg 40 [I n, I k] (FR (chP n k)) := by
  by_cases hk : k = 0
  · subst hk
    have kr := fun h h' K => k70 (h := h) (h' := h') (K := K) 1 n (by simp only [big]; omega) (by simp only [big]; omega) (by omega)
    have hr : chP n 0 = rdP 1 n := rfl
    have z0 : decide (((0 : Nat) : Int) = 0) = true := rfl
    rw [hr]
    generalize rdP 1 n = q at *
    refine Con_intro Try.func40 rfl ok51 (Nat.le_of_ble_eq_true rfl) rfl ?_
    simp only [Try.f40, Option.getD_some, initSt2]
    simp (disch := first | (simp only [go_sem, gb0, eq_self]; done) | omega | (simp only [gl1, gl2]; omega)) only [go_sem, ↓reduceIte, Nat.reduceEqDiff, Nat.reduceAdd, Nat.reduceMul, Nat.reduceSub, Int.reduceToNat, Nat.reduceBEq, kr, z0]
    rfl
  have hk0 : ¬ (k : Int) = 0 := by omega
  have hr : chP n k = rdP ((pS k (n - k)).1 * k) ((pS k (n - k)).2 * n) := by simp [chP, hk]
  rw [hr]
  refine Con_intro Try.func40 rfl ok51 (Nat.le_of_ble_eq_true rfl) rfl ?_
  simp only [Try.f40, Option.getD_some, initSt2]
  simp (disch := first | (simp only [go_sem, gb0, eq_self]; done) | omega | (simp only [gl1, gl2]; omega)) only [go_sem, ↓reduceIte, Nat.reduceEqDiff, Nat.reduceAdd, Nat.reduceMul, Nat.reduceSub, Int.reduceToNat, Nat.reduceBEq, hk0]
  refine WP_cut (fun st h => st 0 = I n ∧ st 1 = I k ∧ st 4 = .ptr 0 0 ∧ st 5 = .ptr 1 0 ∧ h.nx = 2 ∧ h.bl 0 = some (.cells false false [I 0, I 0]) ∧ h.bl 1 = some (.cells false false [I (pS k (n - k)).1, I (pS k (n - k)).2])) ?_ ?_
  · refine WP_loopK (fun m st h => ∃ j : Nat, m = n - k - j ∧ j ≤ n - k ∧ st 0 = I n ∧ st 1 = I k ∧ st 4 = .ptr 0 0 ∧ st 5 = .ptr 1 0 ∧ st 6 = I ((k + j : Nat) : Int) ∧ h.nx = 2 ∧ h.bl 0 = some (.cells false false [I 0, I 0]) ∧ h.bl 1 = some (.cells false false [I (pS k j).1, I (pS k j).2])) (n - k)
      ⟨0, rfl, Nat.zero_le _, by simp (disch := first | (simp only [go_sem, gb0, eq_self]; done) | omega | (simp only [gl1, gl2]; omega)) only [go_sem, ↓reduceIte, Nat.reduceEqDiff, Nat.reduceAdd, Nat.reduceMul, Nat.reduceSub, Int.reduceToNat, Nat.reduceBEq], by simp (disch := first | (simp only [go_sem, gb0, eq_self]; done) | omega | (simp only [gl1, gl2]; omega)) only [go_sem, ↓reduceIte, Nat.reduceEqDiff, Nat.reduceAdd, Nat.reduceMul, Nat.reduceSub, Int.reduceToNat, Nat.reduceBEq], by simp (disch := first | (simp only [go_sem, gb0, eq_self]; done) | omega | (simp only [gl1, gl2]; omega)) only [go_sem, ↓reduceIte, Nat.reduceEqDiff, Nat.reduceAdd, Nat.reduceMul, Nat.reduceSub, Int.reduceToNat, Nat.reduceBEq], by simp (disch := first | (simp only [go_sem, gb0, eq_self]; done) | omega | (simp only [gl1, gl2]; omega)) only [go_sem, ↓reduceIte, Nat.reduceEqDiff, Nat.reduceAdd, Nat.reduceMul, Nat.reduceSub, Int.reduceToNat, Nat.reduceBEq], by simp (disch := first | (simp only [go_sem, gb0, eq_self]; done) | omega | (simp only [gl1, gl2]; omega)) only [go_sem, ↓reduceIte, Nat.reduceEqDiff, Nat.reduceAdd, Nat.reduceMul, Nat.reduceSub, Int.reduceToNat, Nat.reduceBEq]; rfl, by simp (disch := first | (simp only [go_sem, gb0, eq_self]; done) | omega | (simp only [gl1, gl2]; omega)) only [go_sem, ↓reduceIte, Nat.reduceEqDiff, Nat.reduceAdd, Nat.reduceMul, Nat.reduceSub, Int.reduceToNat, Nat.reduceBEq], by simp (disch := first | (simp only [go_sem, gb0, eq_self]; done) | omega | (simp only [gl1, gl2]; omega)) only [go_sem, ↓reduceIte, Nat.reduceEqDiff, Nat.reduceAdd, Nat.reduceMul, Nat.reduceSub, Int.reduceToNat, Nat.reduceBEq], by simp (disch := first | (simp only [go_sem, gb0, eq_self]; done) | omega | (simp only [gl1, gl2]; omega)) only [go_sem, ↓reduceIte, Nat.reduceEqDiff, Nat.reduceAdd, Nat.reduceMul, Nat.reduceSub, Int.reduceToNat, Nat.reduceBEq]; rfl⟩ ?_
    rintro m st h ⟨j, rfl, hj, s0, s1, s4, s5, s6, hnx, b0, b1⟩
    by_cases hlt : k + j < n
    case neg =>
      have hlt' : ¬ ((k + j : Nat) : Int) < n := by omega
      have hjj : j = n - k := by omega
      subst hjj
      simp (disch := first | (simp only [go_sem, gb0, eq_self]; done) | omega | (simp only [gl1, gl2]; omega)) only [go_sem, ↓reduceIte, Nat.reduceEqDiff, Nat.reduceAdd, Nat.reduceMul, Nat.reduceSub, Int.reduceToNat, Nat.reduceBEq, s0, s1, s4, s5, s6, hlt', b0, b1]
      exact hnx
    have hlt' : ((k + j : Nat) : Int) < n := by omega
    obtain ⟨p1, p2⟩ := pS_ok (k := k) (m := j) (by omega) (by omega) (by omega)
    obtain ⟨p3, p4⟩ := pS_ok (k := k) (m := j + 1) (by omega) (by omega) (by omega)
    have hstep : pS k (j + 1) = rdP ((pS k j).1 * ((k + j : Nat) : Int) + (pS k j).2) ((pS k j).2 * ((k + j : Nat) : Int)) := rfl
    rw [hstep] at p3 p4
    generalize (pS k j).1 = a at *
    generalize (pS k j).2 = b at *
    obtain ⟨i, hi⟩ : ∃ i : Nat, i = k + j := ⟨_, rfl⟩
    have hib : 1 ≤ i ∧ i ≤ 19 := by omega
    rw [← hi] at s6 hlt' hstep p3 p4
    have m1 : 0 ≤ a * i ∧ a * i ≤ 1099511627776 * 20 := ⟨Int.mul_nonneg p1.1 (by omega), Int.mul_le_mul p1.2 (by omega) (by omega) (by omega)⟩
    have m2 : 0 < b * i ∧ b * i ≤ 1099511627776 * 20 := ⟨Int.mul_pos (by omega) (by omega), Int.mul_le_mul p2.2 (by omega) (by omega) (by omega)⟩
    have kr := fun h h' K => k70 (h := h) (h' := h') (K := K) (a * i + b) (b * i) (by simp only [big]; omega) (by simp only [big]; omega) (by omega)
    generalize rdP (a * i + b) (b * i) = q at *
    simp (disch := first | (simp only [go_sem, gb0, eq_self]; done) | omega | (simp only [gl1, gl2]; omega)) only [go_sem, ↓reduceIte, Nat.reduceEqDiff, Nat.reduceAdd, Nat.reduceMul, Nat.reduceSub, Int.reduceToNat, Nat.reduceBEq, s0, s1, s4, s5, s6, hlt', b0, b1, hnx, kr]
    rw [LoopK_normal]
    exact ⟨n - k - (j + 1), by omega, j + 1, rfl, by omega, by simp (disch := first | (simp only [go_sem, gb0, eq_self]; done) | omega | (simp only [gl1, gl2]; omega)) only [go_sem, ↓reduceIte, Nat.reduceEqDiff, Nat.reduceAdd, Nat.reduceMul, Nat.reduceSub, Int.reduceToNat, Nat.reduceBEq, s0], by simp (disch := first | (simp only [go_sem, gb0, eq_self]; done) | omega | (simp only [gl1, gl2]; omega)) only [go_sem, ↓reduceIte, Nat.reduceEqDiff, Nat.reduceAdd, Nat.reduceMul, Nat.reduceSub, Int.reduceToNat, Nat.reduceBEq, s1], by simp (disch := first | (simp only [go_sem, gb0, eq_self]; done) | omega | (simp only [gl1, gl2]; omega)) only [go_sem, ↓reduceIte, Nat.reduceEqDiff, Nat.reduceAdd, Nat.reduceMul, Nat.reduceSub, Int.reduceToNat, Nat.reduceBEq, s4], by simp (disch := first | (simp only [go_sem, gb0, eq_self]; done) | omega | (simp only [gl1, gl2]; omega)) only [go_sem, ↓reduceIte, Nat.reduceEqDiff, Nat.reduceAdd, Nat.reduceMul, Nat.reduceSub, Int.reduceToNat, Nat.reduceBEq, s5], (by simp (disch := first | (simp only [go_sem, gb0, eq_self]; done) | omega | (simp only [gl1, gl2]; omega)) only [go_sem, ↓reduceIte, Nat.reduceEqDiff, Nat.reduceAdd, Nat.reduceMul, Nat.reduceSub, Int.reduceToNat, Nat.reduceBEq]; congr 1; omega), by simp (disch := first | (simp only [go_sem, gb0, eq_self]; done) | omega | (simp only [gl1, gl2]; omega)) only [go_sem, ↓reduceIte, Nat.reduceEqDiff, Nat.reduceAdd, Nat.reduceMul, Nat.reduceSub, Int.reduceToNat, Nat.reduceBEq, hnx], by simp (disch := first | (simp only [go_sem, gb0, eq_self]; done) | omega | (simp only [gl1, gl2]; omega)) only [go_sem, ↓reduceIte, Nat.reduceEqDiff, Nat.reduceAdd, Nat.reduceMul, Nat.reduceSub, Int.reduceToNat, Nat.reduceBEq, b0], by rw [hstep]; simp (disch := first | (simp only [go_sem, gb0, eq_self]; done) | omega | (simp only [gl1, gl2]; omega)) only [go_sem, ↓reduceIte, Nat.reduceEqDiff, Nat.reduceAdd, Nat.reduceMul, Nat.reduceSub, Int.reduceToNat, Nat.reduceBEq]⟩
  · rintro st h ⟨s0, s1, s4, s5, hnx, b0, b1⟩
    obtain ⟨p1, p2⟩ := pS_ok (k := k) (m := n - k) (by omega) (by omega) (by omega)
    generalize (pS k (n - k)).1 = a at *
    generalize (pS k (n - k)).2 = b at *
    have m1 : 0 ≤ a * k ∧ a * k ≤ 1099511627776 * 20 := ⟨Int.mul_nonneg p1.1 (by omega), Int.mul_le_mul p1.2 (by omega) (by omega) (by omega)⟩
    have m2 : 0 < b * n ∧ b * n ≤ 1099511627776 * 20 := ⟨Int.mul_pos (by omega) (by omega), Int.mul_le_mul p2.2 (by omega) (by omega) (by omega)⟩
    have kr := fun h h' K => k70 (h := h) (h' := h') (K := K) (a * k) (b * n) (by simp only [big]; omega) (by simp only [big]; omega) (by omega)
    generalize rdP (a * k) (b * n) = q at *
    simp (disch := first | (simp only [go_sem, gb0, eq_self]; done) | omega | (simp only [gl1, gl2]; omega)) only [go_sem, ↓reduceIte, Nat.reduceEqDiff, Nat.reduceAdd, Nat.reduceMul, Nat.reduceSub, Int.reduceToNat, Nat.reduceBEq, s0, s1, s4, s5, b0, b1, hnx, kr]
    rfl
theorem k51 {n k : Nat} (h1 : 1 ≤ n) (h2 : n ≤ 20) (h3 : k < n) : ConW Try.prog cfg 40 h (some ([I n, I k], h')) K = K (FR (chP n k)) h := ConW_num (f51_con h1 h2 h3) rfl

/-! ### The reference's -/
def cmpP (p q : Int × Int) : Int := if p.1 * q.2 < q.1 * p.2 then -1 else if q.1 * p.2 < p.1 * q.2 then 1 else 0
theorem f52_con (p q : Int × Int) (h1 : -big ≤ p.1 * q.2 ∧ p.1 * q.2 ≤ big) (h2 : -big ≤ q.1 * p.2 ∧ q.1 * p.2 ≤ big) : Con Try.prog cfg 38 [FR p, FR q] (I (cmpP p q)) := by
  have hal : ∀ (g : Hp) (x y : Int), allocB g (some (.agg [I x, I y])) = some (.ptr g.nx 0, g.alloc (.cells false false [I x, I y])) := fun g x y => allocB_agg _ rfl
  simp only [big] at h1 h2
  by_cases c1 : p.1 * q.2 < q.1 * p.2
  · have hr : cmpP p q = -1 := by simp [cmpP, c1]
    rw [hr]
    refine Con_intro Try.func38 rfl ok52 (Nat.le_of_ble_eq_true rfl) rfl ?_
    simp only [Try.f38, Option.getD_some, initSt2]
    simp (disch := first | (simp only [go_sem, gb0, eq_self]; done) | omega | (simp only [gl1, gl2]; omega)) only [go_sem, ↓reduceIte, Nat.reduceEqDiff, Nat.reduceAdd, Nat.reduceMul, Nat.reduceSub, Int.reduceToNat, Nat.reduceBEq, hal, c1]
  by_cases c2 : q.1 * p.2 < p.1 * q.2
  · have hr : cmpP p q = 1 := by simp [cmpP, c1, c2]
    rw [hr]
    refine Con_intro Try.func38 rfl ok52 (Nat.le_of_ble_eq_true rfl) rfl ?_
    simp only [Try.f38, Option.getD_some, initSt2]
    simp (disch := first | (simp only [go_sem, gb0, eq_self]; done) | omega | (simp only [gl1, gl2]; omega)) only [go_sem, ↓reduceIte, Nat.reduceEqDiff, Nat.reduceAdd, Nat.reduceMul, Nat.reduceSub, Int.reduceToNat, Nat.reduceBEq, hal, c1, c2]
  · have hr : cmpP p q = 0 := by simp [cmpP, c1, c2]
    rw [hr]
    refine Con_intro Try.func38 rfl ok52 (Nat.le_of_ble_eq_true rfl) rfl ?_
    simp only [Try.f38, Option.getD_some, initSt2]
    simp (disch := first | (simp only [go_sem, gb0, eq_self]; done) | omega | (simp only [gl1, gl2]; omega)) only [go_sem, ↓reduceIte, Nat.reduceEqDiff, Nat.reduceAdd, Nat.reduceMul, Nat.reduceSub, Int.reduceToNat, Nat.reduceBEq, hal, c1, c2]
end Go.Proofs.Ytihnplomlphfjaa.S

set_option linter.unusedVariables false
set_option linter.unusedSimpArgs false
set_option maxRecDepth 10000
namespace Go.Proofs.Ytihnplomlphfjaa.S
open Go Go.Am

variable {h h' : Hp} {K : AV → Hp → Prop}

instance instLP : RowEnc (e1 LP) 1 := inferInstanceAs (RowEnc (e1 (L eP)) 1)
abbrev LLP : List (List (Int × Int)) → AV := L (e1 LP)
structure okO (l : List (List (Int × Int))) : Prop where
  len : l.length ≤ maxLen
  row : ∀ o ∈ l, o.length ≤ maxLen
structure smallO (l : List (List (Int × Int))) : Prop where
  len : l.length ≤ 8
  row : ∀ o ∈ l, o.length ≤ 9
def pairB (q : Int × Int) : Bool := (decide (0 ≤ q.1) && decide (q.1 ≤ 1000)) && (decide (1 ≤ q.2) && decide (q.2 ≤ 16))
def offB (o : List (Int × Int)) : Bool := o.all pairB && (decide (o.length ≤ 8) && decide (sumO o (fun q => q.2) = 16))
def offsB (l : List (List (Int × Int))) : Bool := decide (l.length ≤ 6) && l.all offB
theorem offB_no {l : List (List (Int × Int))} {i : Nat} (hi : i < l.length) (h : offB (nth l i) = false) : offsB l = false := by
  rw [offsB, Bool.and_eq_false_iff]; right
  rw [List.all_eq_false]
  exact ⟨nth l i, nth_mem hi, by rw [h]; decide⟩
theorem pair_no {o : List (Int × Int)} {i : Nat} (hi : i < o.length) (h : pairB (nth o i) = false) : offB o = false := by
  rw [offB, Bool.and_eq_false_iff]; left
  rw [List.all_eq_false]
  exact ⟨nth o i, nth_mem hi, by rw [h]; decide⟩
theorem all_nth {α : Type} [Inhabited α] {p : α → Bool} {xs : List α} (h : ∀ i, i < xs.length → p (nth xs i) = true) : xs.all p = true := by
  refine List.all_eq_true.2 fun x hx => ?_
  obtain ⟨i, hi, rfl⟩ := List.getElem_of_mem hx
  rw [← nth_getElem hi]; exact h i hi
theorem OffOK.of {o : List (Int × Int)} (h : offB o = true) : OffOK o := by
  simp only [offB, Bool.and_eq_true, decide_eq_true_eq, List.all_eq_true] at h
  refine ⟨fun q hq => ?_, h.2.1, h.2.2⟩
  have := h.1 q hq
  simp only [pairB, Bool.and_eq_true, decide_eq_true_eq] at this
  omega
theorem offs_ok {l : List (List (Int × Int))} (h : offsB l = true) : l.length ≤ 6 ∧ ∀ o ∈ l, OffOK o := by
  simp only [offsB, Bool.and_eq_true, decide_eq_true_eq, List.all_eq_true] at h
  exact ⟨h.1, fun o ho => OffOK.of (h.2 o ho)⟩
theorem pair_b {o : List (Int × Int)} {j : Nat} (hj : j ≤ o.length) (h : ∀ i, i < j → pairB (nth o i) = true) : 0 ≤ sumN (fun i => (nth o i).2) j ∧ sumN (fun i => (nth o i).2) j ≤ 16 * j := by
  have := sumN_bounds (f := fun i => (nth o i).2) (lo := 0) (hi := 16) (n := j) fun i hi => by
    have := h i hi
    simp only [pairB, Bool.and_eq_true, decide_eq_true_eq] at this
    omega
  omega

theorem f59_con (l : List (List (Int × Int))) (hs : smallO l) : Con Try.prog cfg 14 [LLP l] (.bool (offsB l)) := by
  have hl8 := hs.len
  have hal : ∀ (g : Hp) (x y : Int), allocB g (some (.agg [I x, I y])) = some (.ptr g.nx 0, g.alloc (.cells false false [I x, I y])) := fun g x y => allocB_agg _ rfl
  by_cases h6 : l.length ≤ 6
  case neg =>
    have hr : offsB l = false := by simp [offsB, h6]
    have h6' : (6 : Int) < l.length := by omega
    refine Con_intro Try.func14 rfl ok59 (Nat.le_of_ble_eq_true rfl) rfl ?_
    simp only [Try.f14, Option.getD_some, initSt1]
    simp (disch := first | (simp only [go_sem, Bool.and_self, eq_self]; done) | omega | (simp only [List.length_cons, List.length_nil]; omega)) only [go_sem, ↓reduceIte, Nat.reduceEqDiff, Nat.reduceAdd, Nat.reduceMul, Nat.reduceSub, Int.reduceToNat, Nat.reduceBEq, List.size_toArray, List.length_cons, List.length_nil, Bool.false_and, Bool.true_and, Bool.or_false, Bool.false_or, Bool.and_false, Bool.and_true, h6', hr]
  have h6' : ¬ (6 : Int) < l.length := by omega
  refine Con_intro Try.func14 rfl ok59 (Nat.le_of_ble_eq_true rfl) rfl ?_
  simp only [Try.f14, Option.getD_some, initSt1]
  simp (disch := first | (simp only [go_sem, Bool.and_self, eq_self]; done) | omega | (simp only [List.length_cons, List.length_nil]; omega)) only [go_sem, ↓reduceIte, Nat.reduceEqDiff, Nat.reduceAdd, Nat.reduceMul, Nat.reduceSub, Int.reduceToNat, Nat.reduceBEq, List.size_toArray, List.length_cons, List.length_nil, Bool.false_and, Bool.true_and, Bool.or_false, Bool.false_or, Bool.and_false, Bool.and_true, h6']
  refine WP_for 13 l.length (fun i st h => st 11 = LLP l ∧ st 12 = I l.length ∧ ∀ j, j < i → offB (nth l j) = true) (by simp (disch := first | (simp only [go_sem, Bool.and_self, eq_self]; done) | omega | (simp only [List.length_cons, List.length_nil]; omega)) only [go_sem, ↓reduceIte, Nat.reduceEqDiff, Nat.reduceAdd, Nat.reduceMul, Nat.reduceSub, Int.reduceToNat, Nat.reduceBEq, List.size_toArray, List.length_cons, List.length_nil, Bool.false_and, Bool.true_and, Bool.or_false, Bool.false_or, Bool.and_false, Bool.and_true]) ⟨by simp (disch := first | (simp only [go_sem, Bool.and_self, eq_self]; done) | omega | (simp only [List.length_cons, List.length_nil]; omega)) only [go_sem, ↓reduceIte, Nat.reduceEqDiff, Nat.reduceAdd, Nat.reduceMul, Nat.reduceSub, Int.reduceToNat, Nat.reduceBEq, List.size_toArray, List.length_cons, List.length_nil, Bool.false_and, Bool.true_and, Bool.or_false, Bool.false_or, Bool.and_false, Bool.and_true], by simp (disch := first | (simp only [go_sem, Bool.and_self, eq_self]; done) | omega | (simp only [List.length_cons, List.length_nil]; omega)) only [go_sem, ↓reduceIte, Nat.reduceEqDiff, Nat.reduceAdd, Nat.reduceMul, Nat.reduceSub, Int.reduceToNat, Nat.reduceBEq, List.size_toArray, List.length_cons, List.length_nil, Bool.false_and, Bool.true_and, Bool.or_false, Bool.false_or, Bool.and_false, Bool.and_true], by omega⟩ ?_
  rintro i st h hi s13 ⟨s11, s12, hall⟩
  by_cases hlt : i < l.length
  case neg =>
    have hr : offsB l = true := by
      rw [offsB, all_nth fun j hj => hall j (by omega)]; simp [h6]
    simp (disch := first | (simp only [go_sem, Bool.and_self, eq_self]; done) | omega | (simp only [List.length_cons, List.length_nil]; omega)) only [go_sem, ↓reduceIte, Nat.reduceEqDiff, Nat.reduceAdd, Nat.reduceMul, Nat.reduceSub, Int.reduceToNat, Nat.reduceBEq, List.size_toArray, List.length_cons, List.length_nil, Bool.false_and, Bool.true_and, Bool.or_false, Bool.false_or, Bool.and_false, Bool.and_true, s11, s12, s13, hlt, hr]
  have hrl := hs.row _ (nth_mem hlt)
  have hno := offB_no hlt
  have hnop := fun j hj => pair_no (o := nth l i) (i := j) hj
  generalize ho : nth l i = o at *
  simp (disch := first | (simp only [go_sem, Bool.and_self, eq_self]; done) | omega | (simp only [List.length_cons, List.length_nil]; omega)) only [go_sem, ↓reduceIte, Nat.reduceEqDiff, Nat.reduceAdd, Nat.reduceMul, Nat.reduceSub, Int.reduceToNat, Nat.reduceBEq, List.size_toArray, List.length_cons, List.length_nil, Bool.false_and, Bool.true_and, Bool.or_false, Bool.false_or, Bool.and_false, Bool.and_true, s11, s12, s13, hlt, ho]
  refine WP_cut (fun st h => st 11 = LLP l ∧ st 12 = I l.length ∧ st 13 = I i ∧ st 4 = LP o ∧ st 5 = I (sumO o fun q => q.2) ∧ o.all pairB = true) ?_ ?_
  · refine WP_for 19 o.length (fun j st h => st 11 = LLP l ∧ st 12 = I l.length ∧ st 13 = I i ∧ st 4 = LP o ∧ st 17 = LP o ∧ st 18 = I o.length ∧ st 5 = I (sumN (fun i => (nth o i).2) j) ∧ ∀ m, m < j → pairB (nth o m) = true) (by simp (disch := first | (simp only [go_sem, Bool.and_self, eq_self]; done) | omega | (simp only [List.length_cons, List.length_nil]; omega)) only [go_sem, ↓reduceIte, Nat.reduceEqDiff, Nat.reduceAdd, Nat.reduceMul, Nat.reduceSub, Int.reduceToNat, Nat.reduceBEq, List.size_toArray, List.length_cons, List.length_nil, Bool.false_and, Bool.true_and, Bool.or_false, Bool.false_or, Bool.and_false, Bool.and_true]) ⟨by simp (disch := first | (simp only [go_sem, Bool.and_self, eq_self]; done) | omega | (simp only [List.length_cons, List.length_nil]; omega)) only [go_sem, ↓reduceIte, Nat.reduceEqDiff, Nat.reduceAdd, Nat.reduceMul, Nat.reduceSub, Int.reduceToNat, Nat.reduceBEq, List.size_toArray, List.length_cons, List.length_nil, Bool.false_and, Bool.true_and, Bool.or_false, Bool.false_or, Bool.and_false, Bool.and_true, s11], by simp (disch := first | (simp only [go_sem, Bool.and_self, eq_self]; done) | omega | (simp only [List.length_cons, List.length_nil]; omega)) only [go_sem, ↓reduceIte, Nat.reduceEqDiff, Nat.reduceAdd, Nat.reduceMul, Nat.reduceSub, Int.reduceToNat, Nat.reduceBEq, List.size_toArray, List.length_cons, List.length_nil, Bool.false_and, Bool.true_and, Bool.or_false, Bool.false_or, Bool.and_false, Bool.and_true, s12], by simp (disch := first | (simp only [go_sem, Bool.and_self, eq_self]; done) | omega | (simp only [List.length_cons, List.length_nil]; omega)) only [go_sem, ↓reduceIte, Nat.reduceEqDiff, Nat.reduceAdd, Nat.reduceMul, Nat.reduceSub, Int.reduceToNat, Nat.reduceBEq, List.size_toArray, List.length_cons, List.length_nil, Bool.false_and, Bool.true_and, Bool.or_false, Bool.false_or, Bool.and_false, Bool.and_true, s13], by simp (disch := first | (simp only [go_sem, Bool.and_self, eq_self]; done) | omega | (simp only [List.length_cons, List.length_nil]; omega)) only [go_sem, ↓reduceIte, Nat.reduceEqDiff, Nat.reduceAdd, Nat.reduceMul, Nat.reduceSub, Int.reduceToNat, Nat.reduceBEq, List.size_toArray, List.length_cons, List.length_nil, Bool.false_and, Bool.true_and, Bool.or_false, Bool.false_or, Bool.and_false, Bool.and_true], by simp (disch := first | (simp only [go_sem, Bool.and_self, eq_self]; done) | omega | (simp only [List.length_cons, List.length_nil]; omega)) only [go_sem, ↓reduceIte, Nat.reduceEqDiff, Nat.reduceAdd, Nat.reduceMul, Nat.reduceSub, Int.reduceToNat, Nat.reduceBEq, List.size_toArray, List.length_cons, List.length_nil, Bool.false_and, Bool.true_and, Bool.or_false, Bool.false_or, Bool.and_false, Bool.and_true], by simp (disch := first | (simp only [go_sem, Bool.and_self, eq_self]; done) | omega | (simp only [List.length_cons, List.length_nil]; omega)) only [go_sem, ↓reduceIte, Nat.reduceEqDiff, Nat.reduceAdd, Nat.reduceMul, Nat.reduceSub, Int.reduceToNat, Nat.reduceBEq, List.size_toArray, List.length_cons, List.length_nil, Bool.false_and, Bool.true_and, Bool.or_false, Bool.false_or, Bool.and_false, Bool.and_true], by simp (disch := first | (simp only [go_sem, Bool.and_self, eq_self]; done) | omega | (simp only [List.length_cons, List.length_nil]; omega)) only [go_sem, ↓reduceIte, Nat.reduceEqDiff, Nat.reduceAdd, Nat.reduceMul, Nat.reduceSub, Int.reduceToNat, Nat.reduceBEq, List.size_toArray, List.length_cons, List.length_nil, Bool.false_and, Bool.true_and, Bool.or_false, Bool.false_or, Bool.and_false, Bool.and_true]; rfl, by omega⟩ ?_
    rintro j st h hj s19 ⟨s11, s12, s13, s4, s17, s18, s5, hpj⟩
    by_cases hjl : j < o.length
    case neg =>
      have hje : j = o.length := by omega
      subst hje
      simp (disch := first | (simp only [go_sem, Bool.and_self, eq_self]; done) | omega | (simp only [List.length_cons, List.length_nil]; omega)) only [go_sem, ↓reduceIte, Nat.reduceEqDiff, Nat.reduceAdd, Nat.reduceMul, Nat.reduceSub, Int.reduceToNat, Nat.reduceBEq, List.size_toArray, List.length_cons, List.length_nil, Bool.false_and, Bool.true_and, Bool.or_false, Bool.false_or, Bool.and_false, Bool.and_true, s11, s12, s13, s4, s17, s18, s19, s5, hjl]
      exact ⟨rfl, all_nth hpj⟩
    have hb := pair_b (Nat.le_of_lt hjl) hpj
    have hst : sumN (fun i => (nth o i).2) (j + 1) = sumN (fun i => (nth o i).2) j + (nth o j).2 := rfl
    have hnp := hnop j hjl
    have hpd : pairB (nth o j) = (inB (nth o j).1 0 1000 && inB (nth o j).2 1 16) := rfl
    generalize hq : nth o j = q at *
    generalize sumN (fun i => (nth o i).2) j = s at *
    cases c1 : inB q.1 0 1000 with
    | false =>
      have hr := hno (hnp (by rw [hpd, c1]; rfl))
      simp (disch := first | (simp only [go_sem, Bool.and_self, eq_self]; done) | omega | (simp only [List.length_cons, List.length_nil]; omega)) only [go_sem, ↓reduceIte, Nat.reduceEqDiff, Nat.reduceAdd, Nat.reduceMul, Nat.reduceSub, Int.reduceToNat, Nat.reduceBEq, List.size_toArray, List.length_cons, List.length_nil, Bool.false_and, Bool.true_and, Bool.or_false, Bool.false_or, Bool.and_false, Bool.and_true, s11, s12, s13, s4, s17, s18, s19, s5, hjl, hq, hal, c1, hr]
    | true =>
    cases c2 : inB q.2 1 16 with
    | false =>
      have hr := hno (hnp (by rw [hpd, c1, c2]; rfl))
      simp (disch := first | (simp only [go_sem, Bool.and_self, eq_self]; done) | omega | (simp only [List.length_cons, List.length_nil]; omega)) only [go_sem, ↓reduceIte, Nat.reduceEqDiff, Nat.reduceAdd, Nat.reduceMul, Nat.reduceSub, Int.reduceToNat, Nat.reduceBEq, List.size_toArray, List.length_cons, List.length_nil, Bool.false_and, Bool.true_and, Bool.or_false, Bool.false_or, Bool.and_false, Bool.and_true, s11, s12, s13, s4, s17, s18, s19, s5, hjl, hq, hal, c1, c2, hr]
    | true =>
      have c2' := c2
      simp only [inB, Bool.and_eq_true, decide_eq_true_eq] at c2'
      simp (disch := first | (simp only [go_sem, Bool.and_self, eq_self]; done) | omega | (simp only [List.length_cons, List.length_nil]; omega)) only [go_sem, ↓reduceIte, Nat.reduceEqDiff, Nat.reduceAdd, Nat.reduceMul, Nat.reduceSub, Int.reduceToNat, Nat.reduceBEq, List.size_toArray, List.length_cons, List.length_nil, Bool.false_and, Bool.true_and, Bool.or_false, Bool.false_or, Bool.and_false, Bool.and_true, s11, s12, s13, s4, s17, s18, s19, s5, hjl, hq, hal, c1, c2]
      rw [ForK_normal]
      refine ⟨hjl, by simp (disch := first | (simp only [go_sem, Bool.and_self, eq_self]; done) | omega | (simp only [List.length_cons, List.length_nil]; omega)) only [go_sem, ↓reduceIte, Nat.reduceEqDiff, Nat.reduceAdd, Nat.reduceMul, Nat.reduceSub, Int.reduceToNat, Nat.reduceBEq, List.size_toArray, List.length_cons, List.length_nil, Bool.false_and, Bool.true_and, Bool.or_false, Bool.false_or, Bool.and_false, Bool.and_true, s19], by simp (disch := first | (simp only [go_sem, Bool.and_self, eq_self]; done) | omega | (simp only [List.length_cons, List.length_nil]; omega)) only [go_sem, ↓reduceIte, Nat.reduceEqDiff, Nat.reduceAdd, Nat.reduceMul, Nat.reduceSub, Int.reduceToNat, Nat.reduceBEq, List.size_toArray, List.length_cons, List.length_nil, Bool.false_and, Bool.true_and, Bool.or_false, Bool.false_or, Bool.and_false, Bool.and_true, s11], by simp (disch := first | (simp only [go_sem, Bool.and_self, eq_self]; done) | omega | (simp only [List.length_cons, List.length_nil]; omega)) only [go_sem, ↓reduceIte, Nat.reduceEqDiff, Nat.reduceAdd, Nat.reduceMul, Nat.reduceSub, Int.reduceToNat, Nat.reduceBEq, List.size_toArray, List.length_cons, List.length_nil, Bool.false_and, Bool.true_and, Bool.or_false, Bool.false_or, Bool.and_false, Bool.and_true, s12], by simp (disch := first | (simp only [go_sem, Bool.and_self, eq_self]; done) | omega | (simp only [List.length_cons, List.length_nil]; omega)) only [go_sem, ↓reduceIte, Nat.reduceEqDiff, Nat.reduceAdd, Nat.reduceMul, Nat.reduceSub, Int.reduceToNat, Nat.reduceBEq, List.size_toArray, List.length_cons, List.length_nil, Bool.false_and, Bool.true_and, Bool.or_false, Bool.false_or, Bool.and_false, Bool.and_true, s13], by simp (disch := first | (simp only [go_sem, Bool.and_self, eq_self]; done) | omega | (simp only [List.length_cons, List.length_nil]; omega)) only [go_sem, ↓reduceIte, Nat.reduceEqDiff, Nat.reduceAdd, Nat.reduceMul, Nat.reduceSub, Int.reduceToNat, Nat.reduceBEq, List.size_toArray, List.length_cons, List.length_nil, Bool.false_and, Bool.true_and, Bool.or_false, Bool.false_or, Bool.and_false, Bool.and_true, s4], by simp (disch := first | (simp only [go_sem, Bool.and_self, eq_self]; done) | omega | (simp only [List.length_cons, List.length_nil]; omega)) only [go_sem, ↓reduceIte, Nat.reduceEqDiff, Nat.reduceAdd, Nat.reduceMul, Nat.reduceSub, Int.reduceToNat, Nat.reduceBEq, List.size_toArray, List.length_cons, List.length_nil, Bool.false_and, Bool.true_and, Bool.or_false, Bool.false_or, Bool.and_false, Bool.and_true, s17], by simp (disch := first | (simp only [go_sem, Bool.and_self, eq_self]; done) | omega | (simp only [List.length_cons, List.length_nil]; omega)) only [go_sem, ↓reduceIte, Nat.reduceEqDiff, Nat.reduceAdd, Nat.reduceMul, Nat.reduceSub, Int.reduceToNat, Nat.reduceBEq, List.size_toArray, List.length_cons, List.length_nil, Bool.false_and, Bool.true_and, Bool.or_false, Bool.false_or, Bool.and_false, Bool.and_true, s18], by rw [hst]; simp (disch := first | (simp only [go_sem, Bool.and_self, eq_self]; done) | omega | (simp only [List.length_cons, List.length_nil]; omega)) only [go_sem, ↓reduceIte, Nat.reduceEqDiff, Nat.reduceAdd, Nat.reduceMul, Nat.reduceSub, Int.reduceToNat, Nat.reduceBEq, List.size_toArray, List.length_cons, List.length_nil, Bool.false_and, Bool.true_and, Bool.or_false, Bool.false_or, Bool.and_false, Bool.and_true], fun m hm => ?_⟩
      rcases Nat.lt_or_ge m j with h1 | h1
      · exact hpj m h1
      · rw [show m = j by omega, hq, hpd, c1, c2]; rfl
  · rintro st h ⟨s11, s12, s13, s4, s5, hap⟩
    have hob : offB o = (decide (o.length ≤ 8) && decide (sumO o (fun q => q.2) = 16)) := by rw [offB, hap, Bool.true_and]
    by_cases h8 : (8 : Int) < o.length
    · have hr := hno (by rw [hob, decide_eq_false (by omega)]; rfl)
      simp (disch := first | (simp only [go_sem, Bool.and_self, eq_self]; done) | omega | (simp only [List.length_cons, List.length_nil]; omega)) only [go_sem, ↓reduceIte, Nat.reduceEqDiff, Nat.reduceAdd, Nat.reduceMul, Nat.reduceSub, Int.reduceToNat, Nat.reduceBEq, List.size_toArray, List.length_cons, List.length_nil, Bool.false_and, Bool.true_and, Bool.or_false, Bool.false_or, Bool.and_false, Bool.and_true, s11, s12, s13, s4, s5, h8, hr]
    by_cases h16 : sumO o (fun q => q.2) = 16
    · simp (disch := first | (simp only [go_sem, Bool.and_self, eq_self]; done) | omega | (simp only [List.length_cons, List.length_nil]; omega)) only [go_sem, ↓reduceIte, Nat.reduceEqDiff, Nat.reduceAdd, Nat.reduceMul, Nat.reduceSub, Int.reduceToNat, Nat.reduceBEq, List.size_toArray, List.length_cons, List.length_nil, Bool.false_and, Bool.true_and, Bool.or_false, Bool.false_or, Bool.and_false, Bool.and_true, s11, s12, s13, s4, s5, h8, h16, eq_self, decide_true, Bool.not_true]
      rw [ForK_normal]
      refine ⟨hlt, by simp (disch := first | (simp only [go_sem, Bool.and_self, eq_self]; done) | omega | (simp only [List.length_cons, List.length_nil]; omega)) only [go_sem, ↓reduceIte, Nat.reduceEqDiff, Nat.reduceAdd, Nat.reduceMul, Nat.reduceSub, Int.reduceToNat, Nat.reduceBEq, List.size_toArray, List.length_cons, List.length_nil, Bool.false_and, Bool.true_and, Bool.or_false, Bool.false_or, Bool.and_false, Bool.and_true, s13], by simp (disch := first | (simp only [go_sem, Bool.and_self, eq_self]; done) | omega | (simp only [List.length_cons, List.length_nil]; omega)) only [go_sem, ↓reduceIte, Nat.reduceEqDiff, Nat.reduceAdd, Nat.reduceMul, Nat.reduceSub, Int.reduceToNat, Nat.reduceBEq, List.size_toArray, List.length_cons, List.length_nil, Bool.false_and, Bool.true_and, Bool.or_false, Bool.false_or, Bool.and_false, Bool.and_true, s11], by simp (disch := first | (simp only [go_sem, Bool.and_self, eq_self]; done) | omega | (simp only [List.length_cons, List.length_nil]; omega)) only [go_sem, ↓reduceIte, Nat.reduceEqDiff, Nat.reduceAdd, Nat.reduceMul, Nat.reduceSub, Int.reduceToNat, Nat.reduceBEq, List.size_toArray, List.length_cons, List.length_nil, Bool.false_and, Bool.true_and, Bool.or_false, Bool.false_or, Bool.and_false, Bool.and_true, s12], fun j hj => ?_⟩
      rcases Nat.lt_or_ge j i with h1 | h1
      · exact hall j h1
      · rw [show j = i by omega, ho, hob, h16, decide_eq_true (by omega)]; rfl
    · have hr := hno (by rw [hob, decide_eq_false h16, Bool.and_false])
      simp (disch := first | (simp only [go_sem, Bool.and_self, eq_self]; done) | omega | (simp only [List.length_cons, List.length_nil]; omega)) only [go_sem, ↓reduceIte, Nat.reduceEqDiff, Nat.reduceAdd, Nat.reduceMul, Nat.reduceSub, Int.reduceToNat, Nat.reduceBEq, List.size_toArray, List.length_cons, List.length_nil, Bool.false_and, Bool.true_and, Bool.or_false, Bool.false_or, Bool.and_false, Bool.and_true, s11, s12, s13, s4, s5, h8, h16, hr]
theorem k59 (l : List (List (Int × Int))) (hs : smallO l) : ConW Try.prog cfg 14 h (some ([LLP l], h')) K = K (.bool (offsB l)) h := ConW_num (f59_con l hs) rfl
end Go.Proofs.Ytihnplomlphfjaa.S

set_option linter.unusedVariables false
set_option linter.unusedSimpArgs false
set_option maxRecDepth 10000
namespace Go.Proofs.Ytihnplomlphfjaa.S
open Go Go.Am

variable {h h' : Hp} {K : AV → Hp → Prop}

theorem f73_con (n : Int) : Con Try.prog cfg 34 [I n] (FR (n, 1)) := by
  refine Con_intro Try.func34 rfl ok73 (Nat.le_of_ble_eq_true rfl) rfl ?_
  simp only [Try.f34, Option.getD_some, initSt1]
  simp (disch := first | (simp only [go_sem, Bool.and_self, eq_self]; done) | omega | (simp only [List.length_cons, List.length_nil]; omega)) only [go_sem, ↓reduceIte, Nat.reduceEqDiff, Nat.reduceAdd, Nat.reduceMul, Nat.reduceSub, Int.reduceToNat, Nat.reduceBEq, List.size_toArray, List.length_cons, List.length_nil, Bool.false_and, Bool.true_and, Bool.or_false, Bool.false_or, Bool.and_false, Bool.and_true]
  rfl
theorem k73 (n : Int) : ConW Try.prog cfg 34 h (some ([I n], h')) K = K (FR (n, 1)) h := ConW_num (f73_con n) rfl

/-! ### The mean of a function -/
theorem f74_con {o : List (Int × Int)} (ho : OffOK o) (g : FuncId) (caps : List AV) (hsh : cfg.shared g = false) (hse : ∀ h, sealArgs h caps = some (caps, h)) (F : Int → Int) (k : Nat) (hk : k ≤ 5)
    (hF : ∀ q ∈ o, 0 ≤ F q.1 ∧ F q.1 ≤ 1000 * pw k) (hc : ∀ q ∈ o, Con Try.prog cfg g (I q.1 :: caps) (FR (rdP (F q.1) (pw k)))) :
    Con Try.prog cfg 35 [LP o, .fn g caps] (FR (rdP (sumO o fun q => q.2 * F q.1) (pw (k + 1)))) := by
  have hal : ∀ (g : Hp) (x y : Int), allocB g (some (.agg [I x, I y])) = some (.ptr g.nx 0, g.alloc (.cells false false [I x, I y])) := fun g x y => allocB_agg _ rfl
  have hD0 := pw_pos k
  have hD1 : pw k ≤ 1048576 := by
    have h1 : (16 : Nat) ^ k ≤ 16 ^ 5 := Nat.pow_le_pow_right (by decide) hk
    have h2 : ((16 ^ k : Nat) : Int) = pw k := by simp [pw]
    have : (16 : Nat) ^ 5 = 1048576 := by decide
    omega
  have hD2 := pw_succ k
  have hol := ho.len
  generalize pw (k + 1) = D' at *
  generalize pw k = D at *
  have bd : ∀ j, j ≤ o.length → 0 ≤ sumN (fun i => (nth o i).2 * F (nth o i).1) j ∧ sumN (fun i => (nth o i).2 * F (nth o i).1) j ≤ 16000 * D * j := by
    intro j hj
    have := sumN_bounds (f := fun i => (nth o i).2 * F (nth o i).1) (lo := 0) (hi := 16000 * D) (n := j) fun i hi => by
      have hm : nth o i ∈ o := nth_mem (by omega)
      have h1 := hF _ hm
      have h2 := ho.x _ hm
      refine ⟨Int.mul_nonneg (by omega) h1.1, ?_⟩
      have : (nth o i).2 * F (nth o i).1 ≤ 16 * (1000 * D) := Int.mul_le_mul (by omega) h1.2 h1.1 (by omega)
      omega
    rw [Int.zero_mul] at this
    exact this
  have hseq : sumO o (fun q => q.2 * F q.1) = sumN (fun i => (nth o i).2 * F (nth o i).1) o.length := rfl
  rw [hseq]
  refine Con_intro Try.func35 rfl ok74 (Nat.le_of_ble_eq_true rfl) rfl ?_
  simp only [Try.f35, Option.getD_some, initSt2]
  simp (disch := first | (simp only [go_sem, Bool.and_self, eq_self]; done) | omega | (simp only [List.length_cons, List.length_nil]; omega)) only [go_sem, ↓reduceIte, Nat.reduceEqDiff, Nat.reduceAdd, Nat.reduceMul, Nat.reduceSub, Int.reduceToNat, Nat.reduceBEq, List.size_toArray, List.length_cons, List.length_nil, Bool.false_and, Bool.true_and, Bool.or_false, Bool.false_or, Bool.and_false, Bool.and_true, hal]
  refine WP_cut (fun st h => st 4 = .ptr 0 0 ∧ st 5 = .ptr 1 0 ∧ h.nx ≥ 2 ∧ h.bl 0 = some (.cells false false [I 0, I 0]) ∧ h.bl 1 = some (.cells false false [I (rdP (sumN (fun i => (nth o i).2 * F (nth o i).1) o.length) D).1, I (rdP (sumN (fun i => (nth o i).2 * F (nth o i).1) o.length) D).2])) ?_ ?_
  · refine WP_for 12 o.length (fun j st h => st 1 = .fn g caps ∧ st 4 = .ptr 0 0 ∧ st 5 = .ptr 1 0 ∧ st 10 = LP o ∧ st 11 = I o.length ∧ h.nx ≥ 2 ∧ h.bl 0 = some (.cells false false [I 0, I 0]) ∧ h.bl 1 = some (.cells false false [I (rdP (sumN (fun i => (nth o i).2 * F (nth o i).1) j) D).1, I (rdP (sumN (fun i => (nth o i).2 * F (nth o i).1) j) D).2])) (by simp (disch := first | (simp only [go_sem, Bool.and_self, eq_self]; done) | omega | (simp only [List.length_cons, List.length_nil]; omega)) only [go_sem, ↓reduceIte, Nat.reduceEqDiff, Nat.reduceAdd, Nat.reduceMul, Nat.reduceSub, Int.reduceToNat, Nat.reduceBEq, List.size_toArray, List.length_cons, List.length_nil, Bool.false_and, Bool.true_and, Bool.or_false, Bool.false_or, Bool.and_false, Bool.and_true]) ⟨by simp (disch := first | (simp only [go_sem, Bool.and_self, eq_self]; done) | omega | (simp only [List.length_cons, List.length_nil]; omega)) only [go_sem, ↓reduceIte, Nat.reduceEqDiff, Nat.reduceAdd, Nat.reduceMul, Nat.reduceSub, Int.reduceToNat, Nat.reduceBEq, List.size_toArray, List.length_cons, List.length_nil, Bool.false_and, Bool.true_and, Bool.or_false, Bool.false_or, Bool.and_false, Bool.and_true], by simp (disch := first | (simp only [go_sem, Bool.and_self, eq_self]; done) | omega | (simp only [List.length_cons, List.length_nil]; omega)) only [go_sem, ↓reduceIte, Nat.reduceEqDiff, Nat.reduceAdd, Nat.reduceMul, Nat.reduceSub, Int.reduceToNat, Nat.reduceBEq, List.size_toArray, List.length_cons, List.length_nil, Bool.false_and, Bool.true_and, Bool.or_false, Bool.false_or, Bool.and_false, Bool.and_true], by simp (disch := first | (simp only [go_sem, Bool.and_self, eq_self]; done) | omega | (simp only [List.length_cons, List.length_nil]; omega)) only [go_sem, ↓reduceIte, Nat.reduceEqDiff, Nat.reduceAdd, Nat.reduceMul, Nat.reduceSub, Int.reduceToNat, Nat.reduceBEq, List.size_toArray, List.length_cons, List.length_nil, Bool.false_and, Bool.true_and, Bool.or_false, Bool.false_or, Bool.and_false, Bool.and_true], by simp (disch := first | (simp only [go_sem, Bool.and_self, eq_self]; done) | omega | (simp only [List.length_cons, List.length_nil]; omega)) only [go_sem, ↓reduceIte, Nat.reduceEqDiff, Nat.reduceAdd, Nat.reduceMul, Nat.reduceSub, Int.reduceToNat, Nat.reduceBEq, List.size_toArray, List.length_cons, List.length_nil, Bool.false_and, Bool.true_and, Bool.or_false, Bool.false_or, Bool.and_false, Bool.and_true], by simp (disch := first | (simp only [go_sem, Bool.and_self, eq_self]; done) | omega | (simp only [List.length_cons, List.length_nil]; omega)) only [go_sem, ↓reduceIte, Nat.reduceEqDiff, Nat.reduceAdd, Nat.reduceMul, Nat.reduceSub, Int.reduceToNat, Nat.reduceBEq, List.size_toArray, List.length_cons, List.length_nil, Bool.false_and, Bool.true_and, Bool.or_false, Bool.false_or, Bool.and_false, Bool.and_true], by simp [Hp.alloc, Hp.put], by simp (disch := first | (simp only [go_sem, Bool.and_self, eq_self]; done) | omega | (simp only [List.length_cons, List.length_nil]; omega)) only [go_sem, ↓reduceIte, Nat.reduceEqDiff, Nat.reduceAdd, Nat.reduceMul, Nat.reduceSub, Int.reduceToNat, Nat.reduceBEq, List.size_toArray, List.length_cons, List.length_nil, Bool.false_and, Bool.true_and, Bool.or_false, Bool.false_or, Bool.and_false, Bool.and_true], ?_⟩ ?_
    · have : rdP (sumN (fun i => (nth o i).2 * F (nth o i).1) 0) D = (0, 1) := rdP_zero hD0
      rw [this]
      simp (disch := first | (simp only [go_sem, Bool.and_self, eq_self]; done) | omega | (simp only [List.length_cons, List.length_nil]; omega)) only [go_sem, ↓reduceIte, Nat.reduceEqDiff, Nat.reduceAdd, Nat.reduceMul, Nat.reduceSub, Int.reduceToNat, Nat.reduceBEq, List.size_toArray, List.length_cons, List.length_nil, Bool.false_and, Bool.true_and, Bool.or_false, Bool.false_or, Bool.and_false, Bool.and_true]
    rintro j st h hj s12 ⟨s1, s4, s5, s10, s11, hnx, b0, b1⟩
    by_cases hlt : j < o.length
    case neg =>
      have hje : j = o.length := by omega
      subst hje
      simp (disch := first | (simp only [go_sem, Bool.and_self, eq_self]; done) | omega | (simp only [List.length_cons, List.length_nil]; omega)) only [go_sem, ↓reduceIte, Nat.reduceEqDiff, Nat.reduceAdd, Nat.reduceMul, Nat.reduceSub, Int.reduceToNat, Nat.reduceBEq, List.size_toArray, List.length_cons, List.length_nil, Bool.false_and, Bool.true_and, Bool.or_false, Bool.false_or, Bool.and_false, Bool.and_true, s1, s4, s5, s10, s11, s12, hlt, b0, b1]
      exact hnx
    have hm : nth o j ∈ o := nth_mem hlt
    have hx := ho.x _ hm
    have hFq := hF _ hm
    have kg := fun h h' K => ConW_num (h := h) (h' := h') (K := K) (hc _ hm) rfl
    have hb := bd j (by omega)
    have hst : sumN (fun i => (nth o i).2 * F (nth o i).1) (j + 1) = sumN (fun i => (nth o i).2 * F (nth o i).1) j + (nth o j).2 * F (nth o j).1 := rfl
    generalize hq : nth o j = q at *
    have hSj : sumN (fun i => (nth o i).2 * F (nth o i).1) j ≤ 128000 * D := by
      have : 16000 * D * j ≤ 16000 * D * 8 := Int.mul_le_mul_of_nonneg_left (by omega) (by omega)
      omega
    generalize sumN (fun i => (nth o i).2 * F (nth o i).1) j = S at *
    generalize F q.1 = f at *
    have v1 := rdP_val (a := f) hD0
    have v2 := rdP_den (a := f) hD0
    have v3 := rdP_num hFq.1 hD0
    have u1 := rdP_val (a := S) hD0
    have u2 := rdP_den (a := S) hD0
    have u3 := rdP_num hb.1 hD0
    have key : rdP ((rdP S D).1 * (rdP f D).2 + q.2 * (rdP f D).1 * (rdP S D).2) ((rdP S D).2 * (rdP f D).2) = rdP (S + q.2 * f) D := by
      refine rdP_cross (Int.mul_pos u2.1 v2.1) hD0 ?_
      generalize rdP S D = u at *
      generalize rdP f D = v at *
      grind
    have n0 : ¬ 0 = h.nx := by omega
    have n0' : ¬ h.nx = 0 := by omega
    have n1 : ¬ 1 = h.nx := by omega
    have n1' : ¬ h.nx = 1 := by omega
    have n2 : ¬ 0 = h.nx + 1 := by omega
    have n3 : ¬ 1 = h.nx + 1 := by omega
    have n4 : ¬ h.nx = h.nx + 1 := by omega
    have n5 : ¬ h.nx + 1 = h.nx := by omega
    have hsx : ∀ (h : Hp) (x : Int), sealArgs h (I x :: caps) = some (I x :: caps, h) := fun h x => by
      show (sealA h (I x)).bind _ = _
      have : sealA h (I x) = some (I x, h) := rfl
      rw [this]
      show (sealArgs h caps).map _ = _
      rw [hse]; rfl
    generalize rdP S D = u at *
    generalize rdP f D = v at *
    have w1 : 0 ≤ u.1 * v.2 ∧ u.1 * v.2 ≤ 128000 * 1048576 * 1048576 := ⟨Int.mul_nonneg u3.1 (by omega), Int.mul_le_mul (by omega) (by omega) (by omega) (by omega)⟩
    have w2 : 0 ≤ q.2 * v.1 ∧ q.2 * v.1 ≤ 16 * (1000 * 1048576) := ⟨Int.mul_nonneg (by omega) v3.1, Int.mul_le_mul (by omega) (by omega) v3.1 (by omega)⟩
    have w3 : 0 ≤ q.2 * v.1 * u.2 ∧ q.2 * v.1 * u.2 ≤ 16 * (1000 * 1048576) * 1048576 := ⟨Int.mul_nonneg w2.1 (by omega), Int.mul_le_mul w2.2 (by omega) (by omega) (by omega)⟩
    have w4 : 0 < u.2 * v.2 ∧ u.2 * v.2 ≤ 1048576 * 1048576 := ⟨Int.mul_pos u2.1 v2.1, Int.mul_le_mul (by omega) (by omega) (by omega) (by omega)⟩
    have kr := fun h h' K => k70 (h := h) (h' := h') (K := K) (u.1 * v.2 + q.2 * v.1 * u.2) (u.2 * v.2) (by simp only [big]; omega) (by simp only [big]; omega) (by omega)
    rw [key] at kr
    simp (disch := first | (simp only [go_sem, Bool.and_self, eq_self]; done) | omega | (simp only [List.length_cons, List.length_nil]; omega)) only [go_sem, ↓reduceIte, Nat.reduceEqDiff, Nat.reduceAdd, Nat.reduceMul, Nat.reduceSub, Int.reduceToNat, Nat.reduceBEq, List.size_toArray, List.length_cons, List.length_nil, Bool.false_and, Bool.true_and, Bool.or_false, Bool.false_or, Bool.and_false, Bool.and_true, s1, s4, s5, s10, s11, s12, hlt, hq, hal, b0, b1, n0, n0', n1, n1', n2, n3, n4, n5, List.cons_append, List.nil_append, hsh, hsx, kg, kr]
    rw [ForK_normal]
    exact ⟨hlt, by simp (disch := first | (simp only [go_sem, Bool.and_self, eq_self]; done) | omega | (simp only [List.length_cons, List.length_nil]; omega)) only [go_sem, ↓reduceIte, Nat.reduceEqDiff, Nat.reduceAdd, Nat.reduceMul, Nat.reduceSub, Int.reduceToNat, Nat.reduceBEq, List.size_toArray, List.length_cons, List.length_nil, Bool.false_and, Bool.true_and, Bool.or_false, Bool.false_or, Bool.and_false, Bool.and_true, s12], by simp (disch := first | (simp only [go_sem, Bool.and_self, eq_self]; done) | omega | (simp only [List.length_cons, List.length_nil]; omega)) only [go_sem, ↓reduceIte, Nat.reduceEqDiff, Nat.reduceAdd, Nat.reduceMul, Nat.reduceSub, Int.reduceToNat, Nat.reduceBEq, List.size_toArray, List.length_cons, List.length_nil, Bool.false_and, Bool.true_and, Bool.or_false, Bool.false_or, Bool.and_false, Bool.and_true, s1], by simp (disch := first | (simp only [go_sem, Bool.and_self, eq_self]; done) | omega | (simp only [List.length_cons, List.length_nil]; omega)) only [go_sem, ↓reduceIte, Nat.reduceEqDiff, Nat.reduceAdd, Nat.reduceMul, Nat.reduceSub, Int.reduceToNat, Nat.reduceBEq, List.size_toArray, List.length_cons, List.length_nil, Bool.false_and, Bool.true_and, Bool.or_false, Bool.false_or, Bool.and_false, Bool.and_true, s4], by simp (disch := first | (simp only [go_sem, Bool.and_self, eq_self]; done) | omega | (simp only [List.length_cons, List.length_nil]; omega)) only [go_sem, ↓reduceIte, Nat.reduceEqDiff, Nat.reduceAdd, Nat.reduceMul, Nat.reduceSub, Int.reduceToNat, Nat.reduceBEq, List.size_toArray, List.length_cons, List.length_nil, Bool.false_and, Bool.true_and, Bool.or_false, Bool.false_or, Bool.and_false, Bool.and_true, s5], by simp (disch := first | (simp only [go_sem, Bool.and_self, eq_self]; done) | omega | (simp only [List.length_cons, List.length_nil]; omega)) only [go_sem, ↓reduceIte, Nat.reduceEqDiff, Nat.reduceAdd, Nat.reduceMul, Nat.reduceSub, Int.reduceToNat, Nat.reduceBEq, List.size_toArray, List.length_cons, List.length_nil, Bool.false_and, Bool.true_and, Bool.or_false, Bool.false_or, Bool.and_false, Bool.and_true, s10], by simp (disch := first | (simp only [go_sem, Bool.and_self, eq_self]; done) | omega | (simp only [List.length_cons, List.length_nil]; omega)) only [go_sem, ↓reduceIte, Nat.reduceEqDiff, Nat.reduceAdd, Nat.reduceMul, Nat.reduceSub, Int.reduceToNat, Nat.reduceBEq, List.size_toArray, List.length_cons, List.length_nil, Bool.false_and, Bool.true_and, Bool.or_false, Bool.false_or, Bool.and_false, Bool.and_true, s11], by simp only [Hp.alloc, Hp.put]; omega, by simp (disch := first | (simp only [go_sem, Bool.and_self, eq_self]; done) | omega | (simp only [List.length_cons, List.length_nil]; omega)) only [go_sem, ↓reduceIte, Nat.reduceEqDiff, Nat.reduceAdd, Nat.reduceMul, Nat.reduceSub, Int.reduceToNat, Nat.reduceBEq, List.size_toArray, List.length_cons, List.length_nil, Bool.false_and, Bool.true_and, Bool.or_false, Bool.false_or, Bool.and_false, Bool.and_true, b0, n0, n0', n2], by rw [hst]; simp (disch := first | (simp only [go_sem, Bool.and_self, eq_self]; done) | omega | (simp only [List.length_cons, List.length_nil]; omega)) only [go_sem, ↓reduceIte, Nat.reduceEqDiff, Nat.reduceAdd, Nat.reduceMul, Nat.reduceSub, Int.reduceToNat, Nat.reduceBEq, List.size_toArray, List.length_cons, List.length_nil, Bool.false_and, Bool.true_and, Bool.or_false, Bool.false_or, Bool.and_false, Bool.and_true, n1, n1', n3]⟩
  · rintro st h ⟨s4, s5, hnx, b0, b1⟩
    have hb := bd o.length (Nat.le_refl _)
    have hSj : sumN (fun i => (nth o i).2 * F (nth o i).1) o.length ≤ 128000 * D := by
      have : 16000 * D * o.length ≤ 16000 * D * 8 := Int.mul_le_mul_of_nonneg_left (by omega) (by omega)
      omega
    generalize sumN (fun i => (nth o i).2 * F (nth o i).1) o.length = S at *
    have u1 := rdP_val (a := S) hD0
    have u2 := rdP_den (a := S) hD0
    have u3 := rdP_num hb.1 hD0
    have key : rdP (rdP S D).1 ((rdP S D).2 * 16) = rdP S D' := by
      refine rdP_cross (by omega) (by omega) ?_
      generalize rdP S D = u at *
      grind
    generalize rdP S D = u at *
    have kr := fun h h' K => k70 (h := h) (h' := h') (K := K) u.1 (u.2 * 16) (by simp only [big]; omega) (by simp only [big]; omega) (by omega)
    rw [key] at kr
    simp (disch := first | (simp only [go_sem, Bool.and_self, eq_self]; done) | omega | (simp only [List.length_cons, List.length_nil]; omega)) only [go_sem, ↓reduceIte, Nat.reduceEqDiff, Nat.reduceAdd, Nat.reduceMul, Nat.reduceSub, Int.reduceToNat, Nat.reduceBEq, List.size_toArray, List.length_cons, List.length_nil, Bool.false_and, Bool.true_and, Bool.or_false, Bool.false_or, Bool.and_false, Bool.and_true, s4, s5, b0, b1, kr]
    rfl
end Go.Proofs.Ytihnplomlphfjaa.S

set_option linter.unusedVariables false
set_option linter.unusedSimpArgs false
set_option maxRecDepth 10000
namespace Go.Proofs.Ytihnplomlphfjaa.S
open Go Go.Am

variable {h h' : Hp} {K : AV → Hp → Prop}

theorem sealA_fnL (g : FuncId) (id : Nat) (fz row : Bool) (xs : List AV) (hx : AV.pureL xs = true) (hb : h.bl id = some (.cells fz row xs)) : sealA h (.fn g [.ptr id 0]) = some (.fn g [.pp xs], h.put id (some (.cells true row xs))) := by
  have hp : (AV.fn g [.ptr id 0]).isPure = false := rfl
  have s1 : sealV h (.ptr id 0) = some (.pp xs, h.put id (some (.cells true row xs))) := by
    show sealV0 h (.ptr id 0) = _
    unfold sealV0
    rw [if_neg (by simp [AV.isPure])]
    simp only [hb]
    rw [if_pos ⟨hx, Nat.zero_le _⟩]; rfl
  simp only [sealA, hp, sealCells, s1, Option.bind_some, Option.map_some]
  rfl
theorem sealA_fnLL (g : FuncId) (i j : Nat) (fz row fz' row' : Bool) (xs ys : List AV) (hx : AV.pureL xs = true) (hy : AV.pureL ys = true) (hij : j ≠ i) (hb : h.bl i = some (.cells fz row xs)) (hb' : h.bl j = some (.cells fz' row' ys)) :
    sealA h (.fn g [.ptr i 0, .ptr j 0]) = some (.fn g [.pp xs, .pp ys], (h.put i (some (.cells true row xs))).put j (some (.cells true row' ys))) := by
  have hp : (AV.fn g [.ptr i 0, .ptr j 0]).isPure = false := rfl
  have one : ∀ (h : Hp) (id : Nat) (fz row : Bool) (xs : List AV), AV.pureL xs = true → h.bl id = some (.cells fz row xs) → sealV h (.ptr id 0) = some (.pp xs, h.put id (some (.cells true row xs))) := by
    intro h id fz row xs hx hb
    show sealV0 h (.ptr id 0) = _
    unfold sealV0
    rw [if_neg (by simp [AV.isPure])]
    simp only [hb]
    rw [if_pos ⟨hx, Nat.zero_le _⟩]; rfl
  have s1 := one h i fz row xs hx hb
  have s2 := one (h.put i (some (.cells true row xs))) j fz' row' ys hy (by rw [put_bl, if_neg hij]; exact hb')
  simp only [sealA, hp, sealCells, s1, s2, Option.bind_some, Option.map_some]
  rfl
theorem pw_le5 {k : Nat} (hk : k ≤ 5) : 1 ≤ pw k ∧ pw k ≤ 1048576 := by
  have h0 := pw_pos k
  have h1 : (16 : Nat) ^ k ≤ 16 ^ 5 := Nat.pow_le_pow_right (by decide) hk
  have h2 : ((16 ^ k : Nat) : Int) = pw k := by simp [pw]
  have : (16 : Nat) ^ 5 = 1048576 := by decide
  omega
structure Offs (l : List (List (Int × Int))) : Prop where
  len : l.length ≤ 6
  ok : ∀ o ∈ l, OffOK o
theorem Offs.tail {o : List (Int × Int)} {os : List (List (Int × Int))} (h : Offs (o :: os)) : Offs os ∧ os.length ≤ 5 ∧ OffOK o :=
  ⟨⟨by have := h.len; simp at this; omega, fun x hx => h.ok x (by simp [hx])⟩, by have := h.len; simp at this; omega, h.ok o (by simp)⟩

/-! ### The greatest -/
theorem f60_con : ∀ (l : List (List (Int × Int))), Offs l → ∀ most : Int, 0 ≤ most ∧ most ≤ 1000 → Con Try.prog cfg 15 [LLP l, I most] (FR (rdP (gI l most) (pw l.length))) := by
  intro l
  induction l with
  | nil =>
    intro hl most hm
    have hr : rdP (gI [] most) (pw ([] : List (List (Int × Int))).length) = (most, 1) := rdP_one most
    have z0 : ((0 : Nat) : Int) = 0 := rfl
    rw [hr]
    refine Con_intro Try.func15 rfl ok60 (Nat.le_of_ble_eq_true rfl) rfl ?_
    simp only [Try.f15, Option.getD_some, initSt2]
    simp (disch := first | (simp only [go_sem, Bool.and_self, eq_self]; done) | omega | (simp only [List.length_cons, List.length_nil]; omega)) only [go_sem, ↓reduceIte, Nat.reduceEqDiff, Nat.reduceAdd, Nat.reduceMul, Nat.reduceSub, Int.reduceToNat, Nat.reduceBEq, List.size_toArray, List.length_cons, List.length_nil, Bool.false_and, Bool.true_and, Bool.or_false, Bool.false_or, Bool.and_false, Bool.and_true, k73, z0, eq_self, decide_true]
    rfl
  | cons o os ih =>
    intro hl most hm
    obtain ⟨hos, hlen, ho⟩ := hl.tail
    have hg : ∀ most, (sumO o fun q => q.2 * gI os (max most q.1)) = gI (o :: os) most := fun _ => rfl
    have hl1 : (o :: os).length = os.length + 1 := rfl
    have n0 : nth (o :: os) 0 = o := rfl
    have hd : (o :: os).drop 1 = os := rfl
    generalize o :: os = l at *
    have hpl : AV.pureL [LLP l] = true := by rw [AV.pureL, pure_L]; rfl
    have c75 : ∀ q ∈ o, Con Try.prog cfg 36 [I q.1, .pp [LLP l], .pp [I most]] (FR (rdP (gI os (max most q.1)) (pw os.length))) := by
      intro q hq
      have hx := ho.x q hq
      have k60 := fun h h' K => ConW_num (h := h) (h' := h') (K := K) (ih hos (max most q.1) (by omega)) rfl
      generalize rdP (gI os (max most q.1)) (pw os.length) = r at *
      refine Con_intro Try.func36 rfl ok75 (Nat.le_of_ble_eq_true rfl) rfl ?_
      simp only [Try.f36, Option.getD_some, initSt3]
      simp (disch := first | (simp only [go_sem, Bool.and_self, eq_self]; done) | omega | (simp only [List.length_cons, List.length_nil]; omega)) only [go_sem, ↓reduceIte, Nat.reduceEqDiff, Nat.reduceAdd, Nat.reduceMul, Nat.reduceSub, Int.reduceToNat, Nat.reduceBEq, List.size_toArray, List.length_cons, List.length_nil, Bool.false_and, Bool.true_and, Bool.or_false, Bool.false_or, Bool.and_false, Bool.and_true, hd, k60]
      rfl
    have c74 := f74_con ho 36 [.pp [LLP l], .pp [I most]] rfl (fun h => by simp only [sealArgs, sealA_pp _ hpl, sealA_pp _ (show AV.pureL [I most] = true from rfl), Option.bind_some, Option.map_some]) (fun x => gI os (max most x)) os.length hlen (fun q hq => by
      have hx := ho.x q hq
      have := gI_b hos.ok (max most q.1) (by omega)
      have hp := pw_pos os.length
      have h0 : 0 ≤ max most q.1 * pw os.length := Int.mul_nonneg (by omega) (by omega)
      omega) c75
    rw [hg] at c74
    have k74 := fun h h' K => ConW_num (h := h) (h' := h') (K := K) c74 rfl
    have hne : ¬ ((os.length + 1 : Nat) : Int) = 0 := by omega
    have z0 : (0 : Int) < ((os.length + 1 : Nat) : Int) := by omega
    have z1 : (1 : Int) ≤ ((os.length + 1 : Nat) : Int) := by omega
    have hse := sealA_fnLL (h := ((Hp.empty.alloc (.cells false false [LLP l])).alloc (.cells false false [I most])).alloc (.cells false false [I 0, I 0])) 36 0 1 false false false false _ _ hpl (show AV.pureL [I most] = true from rfl) (by decide) rfl rfl
    rw [hl1]
    generalize rdP (gI l most) (pw (os.length + 1)) = r at *
    refine Con_intro Try.func15 rfl ok60 (Nat.le_of_ble_eq_true rfl) rfl ?_
    simp only [Try.f15, Option.getD_some, initSt2]
    simp (disch := first | (simp only [go_sem, Bool.and_self, eq_self]; done) | omega | (simp only [List.length_cons, List.length_nil]; omega)) only [go_sem, ↓reduceIte, Nat.reduceEqDiff, Nat.reduceAdd, Nat.reduceMul, Nat.reduceSub, Int.reduceToNat, Nat.reduceBEq, List.size_toArray, List.length_cons, List.length_nil, Bool.false_and, Bool.true_and, Bool.or_false, Bool.false_or, Bool.and_false, Bool.and_true, hl1, hne, z0, n0, hse, k74]
    rfl

/-! ### The best rule's gain -/
theorem whole_less {x W D : Int} (hD : 0 < D) : (rdP W D).1 < x * (rdP W D).2 ↔ W < x * D := by
  have h1 := rdP_val (a := W) hD
  have h2 := rdP_den (a := W) hD
  generalize rdP W D = u at *
  constructor
  · intro h
    have := Int.mul_lt_mul_of_pos_right h hD
    have e : x * u.2 * D = (x * D) * u.2 := by grind
    rw [h1, e] at this
    exact Int.lt_of_mul_lt_mul_right this (by omega)
  · intro h
    have := Int.mul_lt_mul_of_pos_right h h2.1
    have e : x * D * u.2 = (x * u.2) * D := by grind
    rw [← h1, e] at this
    exact Int.lt_of_mul_lt_mul_right this (by omega)
theorem f76_con {x W D : Int} (hx : 0 ≤ x ∧ x ≤ 1000) (hD : 0 < D ∧ D ≤ 1048576) (hW : 0 ≤ W ∧ W ≤ 1000 * D) : Con Try.prog cfg 37 [I x, .pp [I (rdP W D).1, I (rdP W D).2]] (FR (rdP (max (x * D) W) D)) := by
  have v1 := whole_less (x := x) (W := W) hD.1
  have v2 := rdP_den (a := W) hD.1
  have v3 := rdP_num hW.1 hD.1
  by_cases c : W < x * D
  · have hr : rdP (max (x * D) W) D = (x, 1) := by rw [show max (x * D) W = x * D by omega]; exact rdP_whole x hD.1
    rw [hr]
    have c1 := v1.2 c
    generalize rdP W D = u at *
    have m1 : 0 ≤ x * u.2 ∧ x * u.2 ≤ 1000 * 1048576 := ⟨Int.mul_nonneg hx.1 (by omega), Int.mul_le_mul hx.2 (by omega) (by omega) (by omega)⟩
    have k52 := fun h h' K => ConW_num (h := h) (h' := h') (K := K) (f52_con (x, 1) u (by simp only [big]; omega) (by simp only [big]; omega)) rfl
    have hc : decide (0 < cmpP (x, 1) u) = true := by
      rw [cmpP, if_neg (by simp only; omega), if_pos (by simp only; omega)]; rfl
    refine Con_intro Try.func37 rfl ok76 (Nat.le_of_ble_eq_true rfl) rfl ?_
    simp only [Try.f37, Option.getD_some, initSt2]
    simp (disch := first | (simp only [go_sem, Bool.and_self, eq_self]; done) | omega | (simp only [List.length_cons, List.length_nil]; omega)) only [go_sem, ↓reduceIte, Nat.reduceEqDiff, Nat.reduceAdd, Nat.reduceMul, Nat.reduceSub, Int.reduceToNat, Nat.reduceBEq, List.size_toArray, List.length_cons, List.length_nil, Bool.false_and, Bool.true_and, Bool.or_false, Bool.false_or, Bool.and_false, Bool.and_true, k73, k52, hc]
    rfl
  · have hr : rdP (max (x * D) W) D = rdP W D := by rw [show max (x * D) W = W by omega]
    rw [hr]
    have c1 : ¬ _ := fun h => c (v1.1 h)
    generalize rdP W D = u at *
    have m1 : 0 ≤ x * u.2 ∧ x * u.2 ≤ 1000 * 1048576 := ⟨Int.mul_nonneg hx.1 (by omega), Int.mul_le_mul hx.2 (by omega) (by omega) (by omega)⟩
    have k52 := fun h h' K => ConW_num (h := h) (h' := h') (K := K) (f52_con (x, 1) u (by simp only [big]; omega) (by simp only [big]; omega)) rfl
    have hc : decide (0 < cmpP (x, 1) u) = false := by
      rw [cmpP]
      by_cases c2 : (x, (1 : Int)).1 * u.2 < u.1 * (x, (1 : Int)).2
      · rw [if_pos c2]; rfl
      · rw [if_neg c2, if_neg (by simp only at c2 ⊢; omega)]; rfl
    refine Con_intro Try.func37 rfl ok76 (Nat.le_of_ble_eq_true rfl) rfl ?_
    simp only [Try.f37, Option.getD_some, initSt2]
    simp (disch := first | (simp only [go_sem, Bool.and_self, eq_self]; done) | omega | (simp only [List.length_cons, List.length_nil]; omega)) only [go_sem, ↓reduceIte, Nat.reduceEqDiff, Nat.reduceAdd, Nat.reduceMul, Nat.reduceSub, Int.reduceToNat, Nat.reduceBEq, List.size_toArray, List.length_cons, List.length_nil, Bool.false_and, Bool.true_and, Bool.or_false, Bool.false_or, Bool.and_false, Bool.and_true, k73, k52, hc]
    rfl
theorem f61_con : ∀ (l : List (List (Int × Int))), Offs l → Con Try.prog cfg 16 [LLP l] (FR (rdP (wI l) (pw l.length))) := by
  intro l
  induction l with
  | nil =>
    intro hl
    have hr : rdP (wI []) (pw ([] : List (List (Int × Int))).length) = (0, 1) := rdP_one 0
    have z0 : ((0 : Nat) : Int) = 0 := rfl
    rw [hr]
    refine Con_intro Try.func16 rfl ok61 (Nat.le_of_ble_eq_true rfl) rfl ?_
    simp only [Try.f16, Option.getD_some, initSt1]
    simp (disch := first | (simp only [go_sem, Bool.and_self, eq_self]; done) | omega | (simp only [List.length_cons, List.length_nil]; omega)) only [go_sem, ↓reduceIte, Nat.reduceEqDiff, Nat.reduceAdd, Nat.reduceMul, Nat.reduceSub, Int.reduceToNat, Nat.reduceBEq, List.size_toArray, List.length_cons, List.length_nil, Bool.false_and, Bool.true_and, Bool.or_false, Bool.false_or, Bool.and_false, Bool.and_true, k73, z0, eq_self, decide_true]
    rfl
  | cons o os ih =>
    intro hl
    obtain ⟨hos, hlen, ho⟩ := hl.tail
    have hg : (sumO o fun q => q.2 * max (q.1 * pw os.length) (wI os)) = wI (o :: os) := rfl
    have hl1 : (o :: os).length = os.length + 1 := rfl
    have n0 : nth (o :: os) 0 = o := rfl
    have hd : (o :: os).drop 1 = os := rfl
    generalize o :: os = l at *
    have hp := pw_le5 hlen
    have hw := wI_b hos.ok
    have k61 := fun h h' K => ConW_num (h := h) (h' := h') (K := K) (ih hos) rfl
    have c74 := f74_con ho 37 [.pp [I (rdP (wI os) (pw os.length)).1, I (rdP (wI os) (pw os.length)).2]] rfl (fun h => rfl) (fun x => max (x * pw os.length) (wI os)) os.length hlen (fun q hq => by
      have hx := ho.x q hq
      have h0 : 0 ≤ q.1 * pw os.length := Int.mul_nonneg (by omega) (by omega)
      have h1 : q.1 * pw os.length ≤ 1000 * pw os.length := Int.mul_le_mul_of_nonneg_right (by omega) (by omega)
      omega) (fun q hq => f76_con (ho.x q hq).1 (by omega) hw)
    rw [hg] at c74
    have k74 := fun h h' K => ConW_num (h := h) (h' := h') (K := K) c74 rfl
    have hne : ¬ ((os.length + 1 : Nat) : Int) = 0 := by omega
    have z0 : (0 : Int) < ((os.length + 1 : Nat) : Int) := by omega
    have z1 : (1 : Int) ≤ ((os.length + 1 : Nat) : Int) := by omega
    generalize rdP (wI os) (pw os.length) = u at *
    have hal : ∀ (g : Hp) (x y : Int), allocB g (some (.agg [I x, I y])) = some (.ptr g.nx 0, g.alloc (.cells false false [I x, I y])) := fun g x y => allocB_agg _ rfl
    have hse := sealA_fnL (h := ((Hp.empty.alloc (.cells false false [I 0, I 0])).alloc (.cells false false [I 0, I 0])).put 1 (some (.cells false false [I u.1, I u.2]))) 37 1 false false _ (show AV.pureL [I u.1, I u.2] = true from rfl) rfl
    rw [hl1]
    generalize rdP (wI l) (pw (os.length + 1)) = r at *
    refine Con_intro Try.func16 rfl ok61 (Nat.le_of_ble_eq_true rfl) rfl ?_
    simp only [Try.f16, Option.getD_some, initSt1]
    simp (disch := first | (simp only [go_sem, Bool.and_self, eq_self]; done) | omega | (simp only [List.length_cons, List.length_nil]; omega)) only [go_sem, ↓reduceIte, Nat.reduceEqDiff, Nat.reduceAdd, Nat.reduceMul, Nat.reduceSub, Int.reduceToNat, Nat.reduceBEq, List.size_toArray, List.length_cons, List.length_nil, Bool.false_and, Bool.true_and, Bool.or_false, Bool.false_or, Bool.and_false, Bool.and_true, hl1, hne, z0, z1, n0, hd, hal, k61, hse, k74]
    rfl

/-! ### A threshold -/
theorem f77_con {x t W D : Int} (hD : 0 < D) : Con Try.prog cfg 39 [I x, .pp [I t], .pp [I (rdP W D).1, I (rdP W D).2]] (FR (rdP (if t ≤ x then x * D else W) D)) := by
  by_cases c : t ≤ x
  · have hr : rdP (if t ≤ x then x * D else W) D = (x, 1) := by rw [if_pos c]; exact rdP_whole x hD
    rw [hr]
    generalize rdP W D = u at *
    refine Con_intro Try.func39 rfl ok77 (Nat.le_of_ble_eq_true rfl) rfl ?_
    simp only [Try.f39, Option.getD_some, initSt3]
    simp (disch := first | (simp only [go_sem, Bool.and_self, eq_self]; done) | omega | (simp only [List.length_cons, List.length_nil]; omega)) only [go_sem, ↓reduceIte, Nat.reduceEqDiff, Nat.reduceAdd, Nat.reduceMul, Nat.reduceSub, Int.reduceToNat, Nat.reduceBEq, List.size_toArray, List.length_cons, List.length_nil, Bool.false_and, Bool.true_and, Bool.or_false, Bool.false_or, Bool.and_false, Bool.and_true, k73, c]
    rfl
  · rw [if_neg c]
    generalize rdP W D = u at *
    refine Con_intro Try.func39 rfl ok77 (Nat.le_of_ble_eq_true rfl) rfl ?_
    simp only [Try.f39, Option.getD_some, initSt3]
    simp (disch := first | (simp only [go_sem, Bool.and_self, eq_self]; done) | omega | (simp only [List.length_cons, List.length_nil]; omega)) only [go_sem, ↓reduceIte, Nat.reduceEqDiff, Nat.reduceAdd, Nat.reduceMul, Nat.reduceSub, Int.reduceToNat, Nat.reduceBEq, List.size_toArray, List.length_cons, List.length_nil, Bool.false_and, Bool.true_and, Bool.or_false, Bool.false_or, Bool.and_false, Bool.and_true, k73, c]
    rfl
theorem f62_con (t : Int) : ∀ (l : List (List (Int × Int))), Offs l → Con Try.prog cfg 17 [LLP l, I t] (FR (rdP (tI t l) (pw l.length))) := by
  intro l
  induction l with
  | nil =>
    intro hl
    have hr : rdP (tI t []) (pw ([] : List (List (Int × Int))).length) = (0, 1) := rdP_one 0
    have z0 : ((0 : Nat) : Int) = 0 := rfl
    rw [hr]
    refine Con_intro Try.func17 rfl ok62 (Nat.le_of_ble_eq_true rfl) rfl ?_
    simp only [Try.f17, Option.getD_some, initSt2]
    simp (disch := first | (simp only [go_sem, Bool.and_self, eq_self]; done) | omega | (simp only [List.length_cons, List.length_nil]; omega)) only [go_sem, ↓reduceIte, Nat.reduceEqDiff, Nat.reduceAdd, Nat.reduceMul, Nat.reduceSub, Int.reduceToNat, Nat.reduceBEq, List.size_toArray, List.length_cons, List.length_nil, Bool.false_and, Bool.true_and, Bool.or_false, Bool.false_or, Bool.and_false, Bool.and_true, k73, z0, eq_self, decide_true]
    rfl
  | cons o os ih =>
    intro hl
    obtain ⟨hos, hlen, ho⟩ := hl.tail
    have hg : (sumO o fun q => q.2 * (if t ≤ q.1 then q.1 * pw os.length else tI t os)) = tI t (o :: os) := rfl
    have hl1 : (o :: os).length = os.length + 1 := rfl
    have n0 : nth (o :: os) 0 = o := rfl
    have hd : (o :: os).drop 1 = os := rfl
    generalize o :: os = l at *
    have hp := pw_le5 hlen
    have hw := tI_b hos.ok t
    have hw2 := wI_b hos.ok
    have k62 := fun h h' K => ConW_num (h := h) (h' := h') (K := K) (ih hos) rfl
    have c74 := f74_con ho 39 [.pp [I t], .pp [I (rdP (tI t os) (pw os.length)).1, I (rdP (tI t os) (pw os.length)).2]] rfl (fun h => rfl) (fun x => if t ≤ x then x * pw os.length else tI t os) os.length hlen (fun q hq => by
      have hx := ho.x q hq
      have h0 : 0 ≤ q.1 * pw os.length := Int.mul_nonneg (by omega) (by omega)
      have h1 : q.1 * pw os.length ≤ 1000 * pw os.length := Int.mul_le_mul_of_nonneg_right (by omega) (by omega)
      show 0 ≤ (if t ≤ q.1 then _ else _) ∧ (if t ≤ q.1 then _ else _) ≤ _
      split <;> omega) (fun q hq => f77_con (by omega))
    rw [hg] at c74
    have k74 := fun h h' K => ConW_num (h := h) (h' := h') (K := K) c74 rfl
    have hne : ¬ ((os.length + 1 : Nat) : Int) = 0 := by omega
    have z0 : (0 : Int) < ((os.length + 1 : Nat) : Int) := by omega
    have z1 : (1 : Int) ≤ ((os.length + 1 : Nat) : Int) := by omega
    generalize rdP (tI t os) (pw os.length) = u at *
    have hal : ∀ (g : Hp) (x y : Int), allocB g (some (.agg [I x, I y])) = some (.ptr g.nx 0, g.alloc (.cells false false [I x, I y])) := fun g x y => allocB_agg _ rfl
    have hse := sealA_fnLL (h := (((Hp.empty.alloc (.cells false false [I t])).alloc (.cells false false [I 0, I 0])).alloc (.cells false false [I 0, I 0])).put 2 (some (.cells false false [I u.1, I u.2]))) 39 0 2 false false false false _ _ (show AV.pureL [I t] = true from rfl) (show AV.pureL [I u.1, I u.2] = true from rfl) (by decide) rfl rfl
    rw [hl1]
    generalize rdP (tI t l) (pw (os.length + 1)) = r at *
    have h05 : st0 5 = .skp := rfl
    have h02 : decide ((0 : Nat) < 2) = true := rfl
    have h22 : decide ((2 : Nat) < 2) = false := rfl
    have h01 : decide ((0 : Nat) < 1) = true := rfl
    have h12 : decide ((1 : Nat) < 2) = true := rfl
    have h03 : decide ((2 : Nat) < 3) = true := rfl
    refine Con_intro Try.func17 rfl ok62 (Nat.le_of_ble_eq_true rfl) rfl ?_
    simp only [Try.f17, Option.getD_some, initSt2]
    simp (disch := first | (simp only [go_sem, Bool.and_self, eq_self]; done) | omega | (simp only [List.length_cons, List.length_nil]; omega)) only [go_sem, ↓reduceIte, Nat.reduceEqDiff, Nat.reduceAdd, Nat.reduceMul, Nat.reduceSub, Int.reduceToNat, Nat.reduceBEq, List.size_toArray, List.length_cons, List.length_nil, Bool.false_and, Bool.true_and, Bool.or_false, Bool.false_or, Bool.and_false, Bool.and_true, hl1, h05, h02, h22, h01, h12, h03, hne, z0, z1, n0, hd, hal, k62, hse, k74, List.filterMap_cons, List.filterMap_nil, List.contains_nil, Bool.not_false, Bool.or_true, Bool.true_or, decide_true, List.contains_cons]
    rfl

/-! ### The program's answers -/
def proR (l : List (List (Int × Int))) : AV := if offsB l then .tup [FR (rdP (gI l 0) (pw l.length)), FR (rdP (wI l) (pw l.length)), I 0] else .tup [FR (0, 0), FR (0, 0), I 2]
def thrR (l : List (List (Int × Int))) (t : Int) : AV := if offsB l then .tup [FR (rdP (tI t l) (pw l.length)), I 0] else .tup [FR (0, 0), I 2]
theorem Offs.of {l : List (List (Int × Int))} (h : offsB l = true) : Offs l := ⟨(offs_ok h).1, (offs_ok h).2⟩
theorem f39_con (l : List (List (Int × Int))) (hs : smallO l) : Con Try.prog cfg 7 [LLP l] (proR l) := by
  have k59' := fun h h' K => k59 (h := h) (h' := h') (K := K) l hs
  cases ho : offsB l with
  | false =>
    have hr : proR l = .tup [FR (0, 0), FR (0, 0), I 2] := by simp [proR, ho]
    rw [hr]
    refine Con_intro Try.func7 rfl ok39 (Nat.le_of_ble_eq_true rfl) rfl ?_
    simp only [Try.f7, Option.getD_some, initSt1]
    simp (disch := first | (simp only [go_sem, Bool.and_self, eq_self]; done) | omega | (simp only [List.length_cons, List.length_nil]; omega)) only [go_sem, ↓reduceIte, Nat.reduceEqDiff, Nat.reduceAdd, Nat.reduceMul, Nat.reduceSub, Int.reduceToNat, Nat.reduceBEq, List.size_toArray, List.length_cons, List.length_nil, Bool.false_and, Bool.true_and, Bool.or_false, Bool.false_or, Bool.and_false, Bool.and_true, k59', ho]
  | true =>
    have hr : proR l = .tup [FR (rdP (gI l 0) (pw l.length)), FR (rdP (wI l) (pw l.length)), I 0] := by simp [proR, ho]
    have k60 := fun h h' K => ConW_num (h := h) (h' := h') (K := K) (f60_con l (Offs.of ho) 0 (by decide)) rfl
    have k61 := fun h h' K => ConW_num (h := h) (h' := h') (K := K) (f61_con l (Offs.of ho)) rfl
    rw [hr]
    generalize rdP (gI l 0) (pw l.length) = u at *
    generalize rdP (wI l) (pw l.length) = v at *
    refine Con_intro Try.func7 rfl ok39 (Nat.le_of_ble_eq_true rfl) rfl ?_
    simp only [Try.f7, Option.getD_some, initSt1]
    simp (disch := first | (simp only [go_sem, Bool.and_self, eq_self]; done) | omega | (simp only [List.length_cons, List.length_nil]; omega)) only [go_sem, ↓reduceIte, Nat.reduceEqDiff, Nat.reduceAdd, Nat.reduceMul, Nat.reduceSub, Int.reduceToNat, Nat.reduceBEq, List.size_toArray, List.length_cons, List.length_nil, Bool.false_and, Bool.true_and, Bool.or_false, Bool.false_or, Bool.and_false, Bool.and_true, k59', ho, k60, k61]
theorem f40_con (l : List (List (Int × Int))) (hs : smallO l) (t : Int) : Con Try.prog cfg 8 [LLP l, I t] (thrR l t) := by
  have k59' := fun h h' K => k59 (h := h) (h' := h') (K := K) l hs
  cases ho : offsB l with
  | false =>
    have hr : thrR l t = .tup [FR (0, 0), I 2] := by simp [thrR, ho]
    rw [hr]
    refine Con_intro Try.func8 rfl ok40 (Nat.le_of_ble_eq_true rfl) rfl ?_
    simp only [Try.f8, Option.getD_some, initSt2]
    simp (disch := first | (simp only [go_sem, Bool.and_self, eq_self]; done) | omega | (simp only [List.length_cons, List.length_nil]; omega)) only [go_sem, ↓reduceIte, Nat.reduceEqDiff, Nat.reduceAdd, Nat.reduceMul, Nat.reduceSub, Int.reduceToNat, Nat.reduceBEq, List.size_toArray, List.length_cons, List.length_nil, Bool.false_and, Bool.true_and, Bool.or_false, Bool.false_or, Bool.and_false, Bool.and_true, k59', ho]
  | true =>
    have hr : thrR l t = .tup [FR (rdP (tI t l) (pw l.length)), I 0] := by simp [thrR, ho]
    have k62 := fun h h' K => ConW_num (h := h) (h' := h') (K := K) (f62_con t l (Offs.of ho)) rfl
    rw [hr]
    generalize rdP (tI t l) (pw l.length) = u at *
    refine Con_intro Try.func8 rfl ok40 (Nat.le_of_ble_eq_true rfl) rfl ?_
    simp only [Try.f8, Option.getD_some, initSt2]
    simp (disch := first | (simp only [go_sem, Bool.and_self, eq_self]; done) | omega | (simp only [List.length_cons, List.length_nil]; omega)) only [go_sem, ↓reduceIte, Nat.reduceEqDiff, Nat.reduceAdd, Nat.reduceMul, Nat.reduceSub, Int.reduceToNat, Nat.reduceBEq, List.size_toArray, List.length_cons, List.length_nil, Bool.false_and, Bool.true_and, Bool.or_false, Bool.false_or, Bool.and_false, Bool.and_true, k59', ho, k62]
end Go.Proofs.Ytihnplomlphfjaa.S

set_option linter.unusedVariables false
set_option linter.unusedSimpArgs false
set_option maxRecDepth 10000
namespace Go.Proofs.Ytihnplomlphfjaa
open Go Go.Am

/-- An offer of two numbers, and the weight of the second. -/
abbrev Off2 := Int × Int × Int
def offO (o : Off2) : List (Int × Int) := [(o.1, 16 - o.2.2), (o.2.1, o.2.2)]
def one01 (least x : Int) : Int := if least ≤ x then 1 else 0
def oneO (least : Int) (o : Off2) : List (Int × Int) := [(one01 least o.1, 16 - o.2.2), (one01 least o.2.1, o.2.2)]
def chO (o : Off2) (y : Nat) : Int := if y = 1 then o.2.1 else o.1
def wtO (o : Off2) (y : Nat) : Int := if y = 1 then o.2.2 else 16 - o.2.2
def WO : List Off2 → Nat → Int
  | [], _ => 1
  | o :: l, x => wtO o (x % 2) * WO l (x / 2)
def topO : List Off2 → Int → Nat → Int
  | [], m, _ => m
  | o :: l, m, x => topO l (max m (chO o (x % 2))) (x / 2)
def hitO (least : Int) : List Off2 → Nat → Bool
  | [], _ => false
  | o :: l, x => decide (least ≤ chO o (x % 2)) || hitO least l (x / 2)

theorem sum_split (f : Nat → Int) : ∀ n, sumN f (2 * n) = sumN (fun m => f (2 * m) + f (2 * m + 1)) n
  | 0 => rfl
  | n + 1 => by
    have e : 2 * (n + 1) = 2 * n + 1 + 1 := by omega
    rw [e]
    simp only [sumN, sum_split f n]
    omega
theorem sum_two (F : Int × Int → Int) (p q : Int × Int) : S.sumO [p, q] F = F p + F q := by
  show (0 + F p) + F q = _
  omega
theorem half0 (m : Nat) : 2 * m % 2 = 0 ∧ 2 * m / 2 = m := by omega
theorem half1 (m : Nat) : (2 * m + 1) % 2 = 1 ∧ (2 * m + 1) / 2 = m := by omega
theorem pow2_succ (n : Nat) : 2 ^ (n + 1) = 2 * 2 ^ n := by rw [Nat.pow_succ, Nat.mul_comm]
/-- The mean of the greatest. -/
theorem gI_sum : ∀ (l : List Off2) (m : Int), S.gI (l.map offO) m = sumN (fun x => WO l x * topO l m x) (2 ^ l.length)
  | [], m => by show m = 0 + 1 * m; omega
  | o :: l, m => by
    rw [List.map_cons, S.gI, show offO o = [(o.1, 16 - o.2.2), (o.2.1, o.2.2)] from rfl, sum_two, gI_sum l, gI_sum l, List.length_cons, pow2_succ, sum_split]
    rw [← S.sumN_mul, ← S.sumN_mul, ← S.sumN_add]
    refine sumN_congr fun x _ => ?_
    simp only [WO, topO, half0, half1, wtO, chO, if_true, show ¬ (0 : Nat) = 1 by decide, if_false, Int.mul_assoc]
theorem W_sum : ∀ (l : List Off2), sumN (fun x => WO l x) (2 ^ l.length) = 16 ^ l.length
  | [] => rfl
  | o :: l => by
    rw [List.length_cons, pow2_succ, sum_split, Int.pow_succ, ← W_sum l, Int.mul_comm, ← S.sumN_mul]
    refine sumN_congr fun x _ => ?_
    simp only [WO, half0, half1, wtO, if_true, show ¬ (0 : Nat) = 1 by decide, if_false]
    rw [← Int.add_mul]
    congr 1
    omega
theorem tI_sum (least : Int) : ∀ (l : List Off2), S.tI 1 (l.map (oneO least)) = sumN (fun x => WO l x * if hitO least l x then 1 else 0) (2 ^ l.length)
  | [] => rfl
  | o :: l => by
    have hp : S.pw (l.map (oneO least)).length = sumN (fun x => WO l x) (2 ^ l.length) := by rw [W_sum, S.pw, List.length_map]
    have key : ∀ c : Int, (if 1 ≤ one01 least c then one01 least c * S.pw (l.map (oneO least)).length else S.tI 1 (l.map (oneO least))) = sumN (fun x => WO l x * if (decide (least ≤ c) || hitO least l x) then 1 else 0) (2 ^ l.length) := fun c => by
      unfold one01
      by_cases h : least ≤ c
      · simp only [if_pos h, decide_eq_true h, Bool.true_or, if_true, Int.le_refl, Int.one_mul, Int.mul_one, hp]
      · simp only [if_neg h, decide_eq_false h, Bool.false_or, show ¬ (1 : Int) ≤ 0 by decide, if_false, tI_sum least l]
    rw [List.map_cons, S.tI, show oneO least o = [(one01 least o.1, 16 - o.2.2), (one01 least o.2.1, o.2.2)] from rfl, sum_two]
    dsimp only
    rw [key, key, List.length_cons, pow2_succ, sum_split, ← S.sumN_mul, ← S.sumN_mul, ← S.sumN_add]
    refine sumN_congr fun x _ => ?_
    simp only [WO, hitO, half0, half1, wtO, chO, if_true, show ¬ (0 : Nat) = 1 by decide, if_false, Int.mul_assoc]
theorem top_hit (least : Int) : ∀ (l : List Off2) (m : Int) (x : Nat), least ≤ topO l m x ↔ (least ≤ m ∨ hitO least l x = true)
  | [], m, x => by simp [topO, hitO]
  | o :: l, m, x => by
    rw [topO, top_hit least l, hitO, Bool.or_eq_true, decide_eq_true_eq]
    constructor
    · rintro (h | h)
      · by_cases h2 : least ≤ m
        · exact .inl h2
        · exact .inr (.inl (by omega))
      · exact .inr (.inr h)
    · rintro (h | h | h)
      · exact .inl (by omega)
      · exact .inl (by omega)
      · exact .inr h
/-- The probability that some offer reaches a number. -/
theorem reach_sum {least : Int} {l : List Off2} (h0 : 0 ≤ least) (hk : 0 < l.length) (hl : ∀ o ∈ l, 0 ≤ o.1 ∧ 0 ≤ o.2.1) : S.tI 1 (l.map (oneO least)) = if least = 0 then 16 ^ l.length else sumN (fun x => WO l x * if least ≤ topO l 0 x then 1 else 0) (2 ^ l.length) := by
  rw [tI_sum]
  by_cases h : least = 0
  · rw [if_pos h, ← W_sum]
    refine sumN_congr fun x _ => ?_
    have : hitO least l x = true := by
      cases l with
      | nil => cases hk
      | cons o l =>
        have ho := hl o List.mem_cons_self
        rw [hitO, Bool.or_eq_true, decide_eq_true_eq]
        left
        unfold chO
        split <;> omega
    rw [this]; simp
  · rw [if_neg h]
    refine sumN_congr fun x _ => ?_
    have := top_hit least l 0 x
    by_cases hh : hitO least l x = true
    · rw [if_pos hh, if_pos (this.2 (.inr hh))]
    · rw [if_neg hh, if_neg fun q => by rcases this.1 q with h1 | h1; · omega
                                        · exact hh h1]

/-! ### By steps -/
/-- The greatest of the first numbers. -/
def topN (l : List Off2) (x : Nat) : Nat → Int
  | 0 => 0
  | i + 1 => max (topN l x i) (chO (nth l i) ((x >>> i) % 2))
theorem shr_succ (x i : Nat) : x >>> (i + 1) = (x / 2) >>> i := by
  rw [Nat.shiftRight_eq_div_pow, Nat.shiftRight_eq_div_pow, Nat.pow_succ, Nat.mul_comm, Nat.div_div_eq_div_mul]
theorem topN_nn (l : List Off2) (x : Nat) : ∀ i, 0 ≤ topN l x i
  | 0 => Int.le_refl _
  | i + 1 => by have := topN_nn l x i; rw [topN]; omega
theorem topN_cons (o : Off2) (l : List Off2) (x : Nat) : ∀ i, topN (o :: l) x (i + 1) = max (max 0 (chO o (x % 2))) (topN l (x / 2) i)
  | 0 => by
    show max 0 (chO o ((x >>> 0) % 2)) = max (max 0 (chO o (x % 2))) 0
    rw [Nat.shiftRight_zero]; omega
  | i + 1 => by
    have e1 : topN (o :: l) x (i + 1 + 1) = max (topN (o :: l) x (i + 1)) (chO (nth l i) ((x >>> (i + 1)) % 2)) := rfl
    rw [e1, topN_cons o l x i, shr_succ, show topN l (x / 2) (i + 1) = max (topN l (x / 2) i) (chO (nth l i) (((x / 2) >>> i) % 2)) from rfl]
    omega
theorem topN_eq : ∀ (l : List Off2) (m : Int) (x : Nat), 0 ≤ m → topO l m x = max m (topN l x l.length)
  | [], m, x, hm => by show m = max m 0; omega
  | o :: l, m, x, hm => by
    rw [topO, List.length_cons, topN_cons, topN_eq l _ _ (by omega)]
    have := topN_nn l (x / 2) l.length
    omega
theorem topN_top (l : List Off2) (x : Nat) : topN l x l.length = topO l 0 x := by
  rw [topN_eq l 0 x (Int.le_refl _)]
  have := topN_nn l x l.length
  omega
theorem topN_le {l : List Off2} (hl : ∀ o ∈ l, o.1 ≤ 1000 ∧ o.2.1 ≤ 1000) (x : Nat) : ∀ i, i ≤ l.length → topN l x i ≤ 1000
  | 0, _ => by show (0 : Int) ≤ 1000; omega
  | i + 1, hi => by
    have h1 := topN_le hl x i (by omega)
    have h2 := hl _ (nth_mem (show i < l.length by omega))
    rw [topN]; unfold chO; split <;> omega
/-- The weight of an assignment, variable by variable. -/
theorem prodN_shift (f : Nat → Int) : ∀ n, prodN f (n + 1) = f 0 * prodN (fun i => f (i + 1)) n
  | 0 => by show 1 * f 0 = f 0 * 1; omega
  | n + 1 => by
    have e1 : prodN f (n + 1 + 1) = prodN f (n + 1) * f (n + 1) := rfl
    rw [e1, prodN_shift f n, Int.mul_assoc]; rfl
theorem W_prod : ∀ (l : List Off2) (x : Nat), prodN (fun i => wtO (nth l i) ((x >>> i) % 2)) l.length = WO l x
  | [], _ => rfl
  | o :: l, x => by
    rw [List.length_cons, prodN_shift, WO, ← W_prod l (x / 2)]
    have e0 : nth (o :: l) 0 = o := rfl
    have e1 : ∀ i, nth (o :: l) (i + 1) = nth l i := fun _ => rfl
    simp only [e0, e1, Nat.shiftRight_zero, shr_succ]
theorem W_bounds {l : List Off2} (hl : ∀ o ∈ l, 1 ≤ o.2.2 ∧ o.2.2 ≤ 15) : ∀ (x : Nat), 0 < WO l x ∧ WO l x ≤ 16 ^ l.length := by
  induction l with
  | nil => intro x; exact ⟨(by decide : (0 : Int) < 1), Int.le_refl _⟩
  | cons o l ih =>
    intro x
    obtain ⟨h1, h2⟩ := ih (fun o ho => hl o (List.mem_cons_of_mem _ ho)) (x / 2)
    have ho := hl o List.mem_cons_self
    have hw : 1 ≤ wtO o (x % 2) ∧ wtO o (x % 2) ≤ 16 := by unfold wtO; split <;> omega
    rw [WO, List.length_cons, Int.pow_succ, Int.mul_comm (16 ^ l.length)]
    exact ⟨Int.mul_pos (by omega) h1, Int.mul_le_mul hw.2 h2 (by omega) (by decide)⟩

/-! ### The network -/
def bitsO (k x : Nat) : List Int := (List.range k).map fun i => (((x >>> i) % 2 : Nat) : Int)
def netP (k : Nat) : List (List Int) := List.replicate k []
def netT (l : List Off2) : List (List Int) := l.map fun o => [o.2.2]
theorem bits_nth {k x i : Nat} (hi : i < k) : nth (bitsO k x) i = (((x >>> i) % 2 : Nat) : Int) := nth_map_range _ _ _ hi
theorem netP_nth {k i : Nat} : nth (netP k) i = [] := by
  by_cases h : i < k
  · exact nth_replicate _ _ _ h
  · unfold netP nth
    rw [List.getElem?_eq_none (by simp; omega)]; rfl
theorem netT_nth {l : List Off2} {i : Nat} (hi : i < l.length) : nth (netT l) i = [(nth l i).2.2] := by
  unfold netT nth
  rw [List.getElem?_map, List.getElem?_eq_getElem hi]; rfl
theorem net_ok {l : List Off2} (h : 1 ≤ l.length ∧ l.length ≤ 5) (hl : ∀ o ∈ l, 1 ≤ o.2.2 ∧ o.2.2 ≤ 15) : B.netB (netP l.length) (netT l) = true := by
  have h1 : (netP l.length).length = l.length := by simp [netP]
  have h2 : (netT l).length = l.length := by simp [netT]
  simp only [B.netB, Bool.and_eq_true, decide_eq_true_eq, h1, h2, List.all_eq_true, List.mem_range]
  refine ⟨⟨by simp [B.inB]; omega, trivial⟩, fun i hi => ?_⟩
  have hw := hl _ (nth_mem hi)
  simp only [B.rowB, netP_nth, netT_nth hi]
  simp [B.inB]; omega
theorem bits_ok (k x : Nat) : B.rowOkB (netP k) (bitsO k x) = true := by
  simp only [B.rowOkB, Bool.and_eq_true, decide_eq_true_eq, Bool.not_eq_true', List.any_eq_false]
  refine ⟨by simp [netP, bitsO], fun y hy => ?_⟩
  simp only [bitsO, List.mem_map] at hy
  obtain ⟨i, _, rfl⟩ := hy
  simp [B.inB]; omega
theorem weight_O {l : List Off2} (h : l.length ≤ 5) (x : Nat) : B.weightB (netP l.length) (netT l) (B.ten (bitsO l.length x)) (netP l.length).length = WO l x := by
  have h1 : (netP l.length).length = l.length := by simp [netP]
  have hb : (bitsO l.length x).length = l.length := by simp [bitsO]
  rw [B.weightB, h1, ← W_prod]
  refine B.prodN_congr fun i hi => ?_
  have hn : nth (B.ten (bitsO l.length x)) i = nth (bitsO l.length x) i := B.ten_nth (by omega)
  simp only [B.wt, netP_nth, netT_nth hi, hn, bits_nth hi]
  show (if _ then 16 - (nth l i).2.2 else (nth l i).2.2) = _
  unfold wtO
  rcases (by omega : (x >>> i) % 2 = 0 ∨ (x >>> i) % 2 = 1) with e | e <;> rw [e] <;> rfl
theorem joint_O {l : List Off2} (h : 1 ≤ l.length ∧ l.length ≤ 5) (hl : ∀ o ∈ l, 1 ≤ o.2.2 ∧ o.2.2 ≤ 15) (x : Nat) : B.jointR (netP l.length) (netT l) (bitsO l.length x) = .tup [.agg [I (WO l x / B.gcdI (WO l x) (16 ^ l.length)), I (16 ^ l.length / B.gcdI (WO l x) (16 ^ l.length))], I 0] := by
  unfold B.jointR
  rw [net_ok h hl, bits_ok, weight_O h.2, show (netP l.length).length = l.length by simp [netP]]
  rfl
end Go.Proofs.Ytihnplomlphfjaa

set_option linter.unusedVariables false
set_option linter.unusedSimpArgs false
set_option maxRecDepth 10000
namespace Go.Proofs.Ytihnplomlphfjaa
open Go Go.Am

def decL : List (List AV) → Option (List Int)
  | [] => some []
  | [.int .i64 x] :: xs => (decL xs).map (x :: ·)
  | _ => none
def decLL : List (List AV) → Option (List (List Int))
  | [] => some []
  | [.lst r] :: xs => (decL r).bind fun r' => (decLL xs).map (r' :: ·)
  | _ => none
def smallLL (p : List (List Int)) : Bool := decide (p.length ≤ 10) && p.all fun r => decide (r.length ≤ 10)
/-- The answers of 'two' and of Chance. -/
def extT (f : FuncId) : List AV → Option AV
  | [] => if f = 9 then some (.bool true) else none
  | [.agg [.lst ps, .lst ts], .lst [[.int .i64 2, .int .i64 1]], .lst []] =>
    if f = 12 then (decLL ps).bind fun p => (decLL ts).bind fun t => if smallLL p && smallLL t then some (B.chanceR p t [(2, 1)] []) else none else none
  | _ => none
def cfgT : Cfg := { own := fun _ => false, keepNil := fun _ => false, shared := fun f => f == 45, ext := extT, strict := S.cfg.strict, wr := S.cfg.wr }
@[go_sem] theorem cfgT_deep : cfgT.deep = false := by kernel_rfl
@[go_sem] theorem cfgT_strict (a b : Nat) : cfgT.strict a b = ((a == 1 && b == 9) || (a == 3 && b == 6) || (a == 7 && b == 15)) := rfl
@[go_sem] theorem und49 : Try.prog.underlying 49 = some (.int .u64) := Try.underlying49
@[go_sem] theorem ownT (f : FuncId) : cfgT.own f = false := by kernel_rfl
@[go_sem] theorem knT (f : FuncId) : cfgT.keepNil f = false := by kernel_rfl
@[go_sem] theorem shrT5 : cfgT.shared 5 = false := by kernel_rfl
def ok64 (x : Int) : Prop := -9223372036854775808 ≤ x ∧ x ≤ 9223372036854775807
def modI (x n : Int) : Int := x % 18446744073709551616 % n
theorem modI_bounds (x : Int) {n : Int} (hn : 0 < n) : 0 ≤ modI x n ∧ modI x n < n := ⟨Int.emod_nonneg _ (by omega), Int.emod_lt_of_pos _ hn⟩
end Go.Proofs.Ytihnplomlphfjaa

set_option linter.unusedVariables false
set_option linter.unusedSimpArgs false
set_option maxRecDepth 10000
namespace Go.Proofs.Ytihnplomlphfjaa
open Go Go.Am

variable {h h' : Hp} {K : AV → Hp → Prop}

open Classical in
noncomputable def extP (f : FuncId) (args : List AV) : Option AV :=
  if f = 9 ∧ args = [] then some (.bool true)
  else if f = 10 then (if h : ∃ r, Con Try.prog B.cfg 10 args r then some h.choose else none)
  else if f = 7 then (if h : ∃ r, Con Try.prog S.cfg 7 args r then some h.choose else none)
  else if f = 8 then (if h : ∃ r, Con Try.prog S.cfg 8 args r then some h.choose else none)
  else none
noncomputable def cfgP : Cfg := { own := fun _ => false, keepNil := fun _ => false, shared := fun _ => false, ext := extP, strict := fun _ _ => false, wr := fun _ _ => [] }
@[go_sem] theorem cfgP_deep : cfgP.deep = false := by kernel_rfl
@[go_sem] theorem cfgP_strict (a b : Nat) : cfgP.strict a b = false := rfl
@[go_sem] theorem ownP (f : FuncId) : cfgP.own f = false := by kernel_rfl
@[go_sem] theorem knP (f : FuncId) : cfgP.keepNil f = false := by kernel_rfl
@[go_sem] theorem shrP (f : FuncId) : cfgP.shared f = false := by kernel_rfl
theorem extB0 : ExtOk Try.prog B.cfg := fun _ _ _ h => by cases h
theorem extS0 : ExtOk Try.prog S.cfg := fun _ _ _ h => by cases h
theorem hextP : ExtOk Try.prog cfgP := by
  intro f args r he
  have he : extP f args = some r := he
  unfold extP at he
  split at he
  · rename_i hf
    cases he
    obtain ⟨rfl, rfl⟩ := hf
    exact ⟨(sound extB0 500).2.2.1 _ _ _ f9_run, fun _ => rfl⟩
  split at he
  · rename_i hf
    rw [hf]
    split at he
    · rename_i h
      cases he
      obtain ⟨k, hk⟩ := h.choose_spec
      exact ⟨(sound extB0 k).2.2.1 _ _ _ hk, fun _ => callP_pure (P := Try.prog) (cfg := B.cfg) (fun _ _ _ h => by cases h) rfl hk⟩
    · cases he
  split at he
  · rename_i hf
    rw [hf]
    split at he
    · rename_i h
      cases he
      obtain ⟨k, hk⟩ := h.choose_spec
      exact ⟨(sound extS0 k).2.2.1 _ _ _ hk, fun _ => callP_pure (P := Try.prog) (cfg := S.cfg) (fun _ _ _ h => by cases h) rfl hk⟩
    · cases he
  split at he
  · rename_i hf
    rw [hf]
    split at he
    · rename_i h
      cases he
      obtain ⟨k, hk⟩ := h.choose_spec
      exact ⟨(sound extS0 k).2.2.1 _ _ _ hk, fun _ => callP_pure (P := Try.prog) (cfg := S.cfg) (fun _ _ _ h => by cases h) rfl hk⟩
    · cases he
  · cases he
theorem conP {f : FuncId} {args : List AV} {r : AV} (h : extP f args = some r) : Con Try.prog cfgP f args r := by
  refine ⟨1, ?_⟩
  show (match extP f args with | some r => some r | none => _) = _
  rw [h]
theorem p9_con : Con Try.prog cfgP 9 [] (.bool true) := conP (by unfold extP; rw [if_pos ⟨rfl, rfl⟩])
theorem p10_con {args : List AV} {r : AV} (hc : Con Try.prog B.cfg 10 args r) : Con Try.prog cfgP 10 args r := conP (by
  have hex : ∃ r, Con Try.prog B.cfg 10 args r := ⟨r, hc⟩
  unfold extP
  rw [if_neg (fun h => absurd h.1 (by decide)), if_pos rfl, dif_pos hex]
  obtain ⟨k, hk⟩ := hex.choose_spec
  obtain ⟨k', hk'⟩ := hc
  rw [callP_det hk hk'])
theorem p7_con {args : List AV} {r : AV} (hc : Con Try.prog S.cfg 7 args r) : Con Try.prog cfgP 7 args r := conP (by
  have hex : ∃ r, Con Try.prog S.cfg 7 args r := ⟨r, hc⟩
  unfold extP
  rw [if_neg (fun h => absurd h.1 (by decide)), if_neg (by decide), if_pos rfl, dif_pos hex]
  obtain ⟨k, hk⟩ := hex.choose_spec
  obtain ⟨k', hk'⟩ := hc
  rw [callP_det hk hk'])
theorem p8_con {args : List AV} {r : AV} (hc : Con Try.prog S.cfg 8 args r) : Con Try.prog cfgP 8 args r := conP (by
  have hex : ∃ r, Con Try.prog S.cfg 8 args r := ⟨r, hc⟩
  unfold extP
  rw [if_neg (fun h => absurd h.1 (by decide)), if_neg (by decide), if_neg (by decide), if_pos rfl, dif_pos hex]
  obtain ⟨k, hk⟩ := hex.choose_spec
  obtain ⟨k', hk'⟩ := hc
  rw [callP_det hk hk'])

theorem okP3 : funcOk cfgP Try.f3 (Try.f3.body.getD .skip) = true := by kernel_rfl
theorem okP5 : funcOk cfgP Try.f5 (Try.f5.body.getD .skip) = true := by kernel_rfl
theorem okP6 : funcOk cfgP Try.f6 (Try.f6.body.getD .skip) = true := by kernel_rfl
theorem okP11 : funcOk cfgP Try.f11 (Try.f11.body.getD .skip) = true := by kernel_rfl
theorem okP26 : funcOk cfgP Try.f26 (Try.f26.body.getD .skip) = true := by kernel_rfl
theorem p5_con (x n : Int) (h0 : 0 < n) (h1 : n ≤ 9223372036854775807) : Con Try.prog cfgP 5 [I x, I n] (I (modI x n)) := by
  unfold modI
  refine Con_intro Try.func5 rfl okP5 (Nat.le_of_ble_eq_true rfl) rfl ?_
  simp only [Try.f5, Option.getD_some, initSt2]
  have e1 : IntKind.u64.wrap n = n := by rw [wrap_u64]; omega
  have e2 : IntKind.u64.wrap x = x % 18446744073709551616 := wrap_u64 x
  have e3 : (x % 18446744073709551616).tmod n = x % 18446744073709551616 % n := Int.tmod_eq_emod_of_nonneg (by omega)
  have e4 : IntKind.i64.wrap (x % 18446744073709551616 % n) = x % 18446744073709551616 % n := wrap_ok _ (by have := Int.emod_nonneg (x % 18446744073709551616) (show n ≠ 0 by omega); omega) (by have := Int.emod_lt_of_pos (x % 18446744073709551616) h0; omega)
  simp (disch := first | (simp only [go_sem, Bool.and_self, eq_self]; done) | omega | (simp only [List.length_cons, List.length_nil]; omega)) only [go_sem, ↓reduceIte, Nat.reduceEqDiff, Nat.reduceAdd, Nat.reduceMul, Nat.reduceSub, Int.reduceToNat, Nat.reduceBEq, List.size_toArray, List.length_cons, List.length_nil, Bool.false_and, Bool.true_and, Bool.or_false, Bool.false_or, Bool.and_false, Bool.and_true, e1, e2, e3, e4]
/-- A list's element, or 0. -/
theorem p6_con (l : List Int) (i : Nat) (hi : i ≤ 100) : Con Try.prog cfgP 6 [LI l, I i] (I (nth l i)) := by
  refine Con_intro Try.func6 rfl okP6 (Nat.le_of_ble_eq_true rfl) rfl ?_
  simp only [Try.f6, Option.getD_some, initSt2]
  by_cases hlt : i < l.length
  · have hlt' : (i : Int) < l.length := by omega
    simp (disch := first | (simp only [go_sem, Bool.and_self, eq_self]; done) | omega | (simp only [List.length_cons, List.length_nil]; omega)) only [go_sem, ↓reduceIte, Nat.reduceEqDiff, Nat.reduceAdd, Nat.reduceMul, Nat.reduceSub, Int.reduceToNat, Nat.reduceBEq, List.size_toArray, List.length_cons, List.length_nil, Bool.false_and, Bool.true_and, Bool.or_false, Bool.false_or, Bool.and_false, Bool.and_true, hlt, hlt']
  · have hlt' : ¬ (i : Int) < l.length := by omega
    have e0 : nth l i = 0 := by rw [nth, List.getElem?_eq_none (by omega)]; rfl
    simp (disch := first | (simp only [go_sem, Bool.and_self, eq_self]; done) | omega | (simp only [List.length_cons, List.length_nil]; omega)) only [go_sem, ↓reduceIte, Nat.reduceEqDiff, Nat.reduceAdd, Nat.reduceMul, Nat.reduceSub, Int.reduceToNat, Nat.reduceBEq, List.size_toArray, List.length_cons, List.length_nil, Bool.false_and, Bool.true_and, Bool.or_false, Bool.false_or, Bool.and_false, Bool.and_true, hlt, hlt', e0]
theorem p26_con (a b : Int) (ha : 0 ≤ a ∧ a ≤ 4611686018427387904) (hb : 0 ≤ b ∧ b ≤ 4611686018427387904) : Con Try.prog cfgP 26 [I a, I b] (I (B.gcdI a b)) := by
  refine Con_intro Try.func26 rfl okP26 (Nat.le_of_ble_eq_true rfl) rfl ?_
  simp only [Try.f26, Option.getD_some, initSt2]
  simp (disch := first | (simp only [go_sem, Bool.and_self, eq_self]; done) | omega | (simp only [List.length_cons, List.length_nil]; omega)) only [go_sem, ↓reduceIte, Nat.reduceEqDiff, Nat.reduceAdd, Nat.reduceMul, Nat.reduceSub, Int.reduceToNat, Nat.reduceBEq, List.size_toArray, List.length_cons, List.length_nil, Bool.false_and, Bool.true_and, Bool.or_false, Bool.false_or, Bool.and_false, Bool.and_true]
  refine WP_loopK (fun m st h => ∃ x y : Int, m = y.toNat ∧ 0 ≤ x ∧ x ≤ 4611686018427387904 ∧ 0 ≤ y ∧ y ≤ 4611686018427387904 ∧ B.gcdI x y = B.gcdI a b ∧ st 0 = I x ∧ st 1 = I y) b.toNat
    ⟨a, b, rfl, ha.1, ha.2, hb.1, hb.2, rfl, by simp (disch := first | (simp only [go_sem, Bool.and_self, eq_self]; done) | omega | (simp only [List.length_cons, List.length_nil]; omega)) only [go_sem, ↓reduceIte, Nat.reduceEqDiff, Nat.reduceAdd, Nat.reduceMul, Nat.reduceSub, Int.reduceToNat, Nat.reduceBEq, List.size_toArray, List.length_cons, List.length_nil, Bool.false_and, Bool.true_and, Bool.or_false, Bool.false_or, Bool.and_false, Bool.and_true], by simp (disch := first | (simp only [go_sem, Bool.and_self, eq_self]; done) | omega | (simp only [List.length_cons, List.length_nil]; omega)) only [go_sem, ↓reduceIte, Nat.reduceEqDiff, Nat.reduceAdd, Nat.reduceMul, Nat.reduceSub, Int.reduceToNat, Nat.reduceBEq, List.size_toArray, List.length_cons, List.length_nil, Bool.false_and, Bool.true_and, Bool.or_false, Bool.false_or, Bool.and_false, Bool.and_true]⟩ ?_
  rintro n st h ⟨x, y, rfl, hx0, hx1, hy0, hy1, hgg, s0, s1⟩
  by_cases hy : 0 < y
  case neg =>
    obtain rfl : y = 0 := by omega
    rw [B.gcdI_zero hx0] at hgg
    subst hgg
    have h00 : ¬ (0 : Int) < 0 := by decide
    simp (disch := first | (simp only [go_sem, Bool.and_self, eq_self]; done) | omega | (simp only [List.length_cons, List.length_nil]; omega)) only [go_sem, ↓reduceIte, Nat.reduceEqDiff, Nat.reduceAdd, Nat.reduceMul, Nat.reduceSub, Int.reduceToNat, Nat.reduceBEq, List.size_toArray, List.length_cons, List.length_nil, Bool.false_and, Bool.true_and, Bool.or_false, Bool.false_or, Bool.and_false, Bool.and_true, s0, s1, h00]
  have hy' : ¬ y = 0 := by omega
  have hm0 : 0 ≤ x.tmod y := Int.tmod_nonneg y hx0
  have hm1 : x.tmod y < y := Int.tmod_lt_of_pos x (by omega)
  simp (disch := first | (simp only [go_sem, Bool.and_self, eq_self]; done) | omega | (simp only [List.length_cons, List.length_nil]; omega)) only [go_sem, ↓reduceIte, Nat.reduceEqDiff, Nat.reduceAdd, Nat.reduceMul, Nat.reduceSub, Int.reduceToNat, Nat.reduceBEq, List.size_toArray, List.length_cons, List.length_nil, Bool.false_and, Bool.true_and, Bool.or_false, Bool.false_or, Bool.and_false, Bool.and_true, s0, s1, hy, hy']
  rw [LoopK_normal]
  exact ⟨(x.tmod y).toNat, by omega, y, x.tmod y, rfl, by omega, by omega, hm0, by omega, (B.gcdI_step hx0 (by omega)).trans hgg, by simp (disch := first | (simp only [go_sem, Bool.and_self, eq_self]; done) | omega | (simp only [List.length_cons, List.length_nil]; omega)) only [go_sem, ↓reduceIte, Nat.reduceEqDiff, Nat.reduceAdd, Nat.reduceMul, Nat.reduceSub, Int.reduceToNat, Nat.reduceBEq, List.size_toArray, List.length_cons, List.length_nil, Bool.false_and, Bool.true_and, Bool.or_false, Bool.false_or, Bool.and_false, Bool.and_true], by simp (disch := first | (simp only [go_sem, Bool.and_self, eq_self]; done) | omega | (simp only [List.length_cons, List.length_nil]; omega)) only [go_sem, ↓reduceIte, Nat.reduceEqDiff, Nat.reduceAdd, Nat.reduceMul, Nat.reduceSub, Int.reduceToNat, Nat.reduceBEq, List.size_toArray, List.length_cons, List.length_nil, Bool.false_and, Bool.true_and, Bool.or_false, Bool.false_or, Bool.and_false, Bool.and_true]⟩
/-- A fraction is what two numbers are, reduced. -/
theorem p11_con (a b : Int) (ha : 0 ≤ a ∧ a ≤ 4611686018427387904) (hb : 0 < b ∧ b ≤ 4611686018427387904) : Con Try.prog cfgP 11 [.agg [I (a / B.gcdI a b), I (b / B.gcdI a b)], I a, I b] (.bool true) := by
  have hg := B.gcdI_pos (a := a) hb.1
  have k26 := fun h h' K => ConW_num (h := h) (h' := h') (K := K) (p26_con a b ha ⟨by omega, hb.2⟩) rfl
  have e1 : max a (0 - a) = a := by omega
  have e2 : max a (-a) = a := by omega
  have t1 : a.tdiv (B.gcdI a b) = a / B.gcdI a b := Int.tdiv_eq_ediv_of_nonneg ha.1
  have t2 : b.tdiv (B.gcdI a b) = b / B.gcdI a b := Int.tdiv_eq_ediv_of_nonneg (Int.le_of_lt hb.1)
  have d1 := B.div_bounds ha.1 hg
  have d2 := B.div_bounds (Int.le_of_lt hb.1) hg
  have g0 : ¬ B.gcdI a b = 0 := by omega
  refine Con_intro Try.func11 rfl okP11 (Nat.le_of_ble_eq_true rfl) rfl ?_
  simp only [Try.f11, Option.getD_some, initSt3]
  simp (disch := first | (simp only [go_sem, Bool.and_self, eq_self]; done) | omega | (simp only [List.length_cons, List.length_nil]; omega)) only [go_sem, ↓reduceIte, Nat.reduceEqDiff, Nat.reduceAdd, Nat.reduceMul, Nat.reduceSub, Int.reduceToNat, Nat.reduceBEq, List.size_toArray, List.length_cons, List.length_nil, Bool.false_and, Bool.true_and, Bool.or_false, Bool.false_or, Bool.and_false, Bool.and_true, e1, e2, k26, t1, t2, g0, eq_self, decide_true]
end Go.Proofs.Ytihnplomlphfjaa

set_option linter.unusedVariables false
set_option linter.unusedSimpArgs false
namespace Go.Am
open Go

section
variable {P : Program} {h h' : Hp}

structure Many (h : Hp) (vs : List AV) (fs : List (List AV)) : Prop where
  len : vs.length = fs.length
  own : ∀ (k : Nat) (v : AV), vs[k]? = some v → LiveL h v (nth fs k)
  dis : ∀ (i j : Nat) (v w : AV), i ≠ j → vs[i]? = some v → vs[j]? = some w → ∀ a ∈ rowIds v, a ∉ rowIds w
theorem live_lt {v : AV} {cs : List AV} (l : LiveL h v cs) {a : Nat} (ha : a ∈ rowIds v) : a < h.nx := by
  rcases l with ⟨rfl, _⟩ | ⟨q, rfl, h1, h2⟩
  · simp [rowIds] at ha
  · simp only [rowIds, List.mem_singleton] at ha; omega
theorem live_row {v : AV} {cs : List AV} (l : LiveL h v cs) {a : Nat} (ha : a ∈ rowIds v) : h.bl a = some (.cells false true cs) := by
  rcases l with ⟨rfl, _⟩ | ⟨q, rfl, h1, h2⟩
  · simp [rowIds] at ha
  · simp only [rowIds, List.mem_singleton] at ha
    rw [ha]; exact h2
theorem live_lenB {v : AV} {cs : List AV} (l : LiveL h v cs) (e : TypeId) (g : Hp) (lim : Option Nat) : lenB (some (.slice e)) v g lim = some (I cs.length) := by
  rcases l with ⟨rfl, rfl⟩ | ⟨i, rfl, hi, hc⟩ <;> rfl
theorem live_sl {v : AV} {cs : List AV} (l : LiveL h v cs) (hn : 0 < cs.length) : ∃ q, v = .sl q 0 cs.length 1 ∧ q < h.nx ∧ h.bl q = some (.cells false true cs) := by
  rcases l with ⟨_, rfl⟩ | l
  · cases hn
  · exact l
theorem Many.mono {vs : List AV} {fs : List (List AV)} (m : Many h vs fs) (hn : h.nx ≤ h'.nx) (hb : ∀ i cs, i < h.nx → h.bl i = some (.cells false true cs) → h'.bl i = h.bl i) : Many h' vs fs :=
  ⟨m.len, fun k v hk => (m.own k v hk).mono hn fun i hi => hb i _ (live_lt (m.own k v hk) hi) (live_row (m.own k v hk) hi), m.dis⟩
theorem Many.alloc {vs : List AV} {fs : List (List AV)} (m : Many h vs fs) (b : Blk) : Many (h.alloc b) vs fs :=
  m.mono (Nat.le_succ _) fun i cs hi _ => by simp [Hp.alloc, show ¬ i = h.nx by omega]
theorem Many.put {vs : List AV} {fs : List (List AV)} (m : Many h vs fs) {q : Nat} {fz : Bool} {fl : List AV} (hq : h.bl q = some (.cells fz false fl)) (b : Option Blk) : Many (h.put q b) vs fs :=
  m.mono (Nat.le_refl _) fun i cs hi hb => by
    have : i ≠ q := by rintro rfl; rw [hq] at hb; cases hb
    simp [Hp.put, this]
/-- One element more in one of them. -/
theorem Many.grow {vs : List AV} {fs : List (List AV)} (m : Many h vs fs) (k : Nat) {v : AV} (hk : vs[k]? = some v) (c : AV) (hc : c.isCell = true) (e : TypeId) {b : Nat} {z : AV} (hs : isz P e = some 1) (hb : ibytes P e = some b) (hb24 : b ≤ 24) (hz : izero P e = some z) (hz1 : z.cells.length = 1) (hl : (nth fs k).length ≤ 1000) :
    ∃ V H, appB P h (some (.slice e)) true v (.lst [[c]]) = some (V, H) ∧ (V.cells = [V] ∧ V.isCell = true) ∧ H.nx = h.nx + 1 ∧ (∀ i fz fl, h.bl i = some (.cells fz false fl) → i < h.nx → H.bl i = some (.cells fz false fl)) ∧ Many H (vs.set k V) (fs.set k (nth fs k ++ [c])) := by
  have hlt : k < vs.length := (List.getElem?_eq_some_iff.1 hk).1
  have hlt2 : k < fs.length := by rw [← m.len]; exact hlt
  have lv := m.own k v hk
  have hx : cellsOf h none (.lst [[c]]) = some [c] := rfl
  generalize hfl : nth fs k = fl at *
  obtain ⟨H, e1, e2, e3, e4⟩ : ∃ H, appB P h (some (.slice e)) true v (.lst [[c]]) = some (.sl h.nx 0 (fl.length + 1) 1, H) ∧ H.nx = h.nx + 1 ∧ H.bl h.nx = some (.cells false true (fl ++ [c])) ∧ ∀ i, i < h.nx → i ∉ rowIds v → H.bl i = h.bl i := by
    rcases lv with ⟨rfl, rfl⟩ | ⟨q, rfl, h1, h2⟩
    · refine ⟨h.alloc (.cells false true [c]), ?_, rfl, by simp [Hp.alloc], fun i hi _ => by simp [Hp.alloc, show ¬ i = h.nx by omega]⟩
      simp only [appB, hs, hb, hz, hx, lenA]
      rw [if_pos ⟨trivial, by decide, hz1, rfl, by simp [hc]⟩, if_pos ⟨by simp; omega, by simp⟩]
      rfl
    · refine ⟨(h.put q none).alloc (.cells false true (fl ++ [c])), ?_, rfl, by simp [Hp.alloc, Hp.put], fun i hi hni => ?_⟩
      · simp only [appB, hs, hb, hz, hx, lenA, h2]
        have hm : (fl.length + 1) * b ≤ 140737488355328 := Nat.le_trans (Nat.mul_le_mul (show fl.length + 1 ≤ 1001 by omega) hb24) (by decide)
        rw [if_pos ⟨trivial, by decide, hz1, rfl, by simp [hc]⟩, if_pos ⟨trivial, by omega, hm, by simp; omega⟩]
        rfl
      · have : i ≠ q := fun e => hni (by simp [rowIds, e])
        simp [Hp.alloc, Hp.put, this, show ¬ i = h.nx by omega]
  refine ⟨_, H, e1, ⟨rfl, rfl⟩, e2, fun i fz flr hi hlt => ?_, by simp [m.len], fun j w hw => ?_, fun i j w u hne hw hu a ha => ?_⟩
  · rw [e4 i hlt fun hv => by rw [live_row lv hv] at hi; cases hi]; exact hi
  · rw [List.getElem?_set] at hw
    by_cases hj : k = j
    · subst hj
      rw [if_pos rfl, if_pos hlt] at hw
      cases hw
      have : nth (fs.set k (fl ++ [c])) k = fl ++ [c] := by rw [nth, List.getElem?_set, if_pos rfl, if_pos hlt2]; rfl
      rw [this]
      exact .inr ⟨h.nx, by simp, by omega, e3⟩
    · rw [if_neg hj] at hw
      have : nth (fs.set k (fl ++ [c])) j = nth fs j := by rw [nth, List.getElem?_set, if_neg hj]; rfl
      rw [this]
      exact (m.own j w hw).mono (by omega) fun i hi => e4 i (live_lt (m.own j w hw) hi) fun hv => m.dis j k w v (Ne.symm hj) hw hk i hi hv
  · rw [List.getElem?_set] at hw hu
    by_cases hi : k = i
    · subst hi
      rw [if_pos rfl, if_pos hlt] at hw
      rw [if_neg hne] at hu
      cases hw
      have ha : a = h.nx := by simpa [rowIds] using ha
      intro hu2
      have := live_lt (m.own j u hu) hu2
      omega
    · rw [if_neg hi] at hw
      by_cases hj : k = j
      · subst hj
        rw [if_pos rfl, if_pos hlt] at hu
        cases hu
        intro ha2
        have ha2 : a = h.nx := by simpa [rowIds] using ha2
        have := live_lt (m.own i w hw) ha
        omega
      · rw [if_neg hj] at hu
        exact m.dis i j w u hne hw hu a ha
theorem chunk1 : ∀ (fl : List AV), chunk 1 fl = fl.map fun c => [c] := fun fl => by
  have h2 : fl.flatMap (fun c : AV => [c]) = fl := by simp
  induction fl with
  | nil => rfl
  | cons c fl ih => 
    have : chunk 1 (c :: fl) = [c] :: chunk 1 fl := by rw [chunk]; rfl
    rw [this, ih (by simp)]; rfl
/-- Sealed: a list of pure cells. -/
theorem seal_pureL {v : AV} {fl : List AV} (l : LiveL h v fl) (hp : AV.pureL fl = true) : ∃ h', sealV h v = some (.lst (fl.map fun c => [c]), h') ∧ h'.nx = h.nx ∧ ∀ i, i ∉ rowIds v → h'.bl i = h.bl i := by
  rcases l with ⟨rfl, rfl⟩ | ⟨q, rfl, h1, h2⟩
  · exact ⟨h, rfl, rfl, fun _ _ => rfl⟩
  · refine ⟨h.put q (some (.cells true true fl)), ?_, rfl, fun i hi => by rw [put_bl, if_neg (by simpa [rowIds] using hi)]⟩
    simp only [sealV, sealV0, h2, hp, AV.isPure, if_true]
    rw [if_neg (by simp), if_pos ⟨trivial, by omega, by decide⟩, List.drop_zero, List.take_of_length_le (by omega), chunk1]
end
end Go.Am

set_option linter.unusedVariables false
set_option linter.unusedSimpArgs false
set_option maxRecDepth 10000
namespace Go.Proofs.Ytihnplomlphfjaa
open Go Go.Am

variable {h h' : Hp} {K : AV → Hp → Prop}

def itm (l : List (Int × Int)) (ws : List Int) (i : Nat) : Off2 := (modI (nth l i).1 1001, modI (nth l i).2 1001, 1 + modI (nth ws i) 15)
def itms (l : List (Int × Int)) (ws : List Int) (i : Nat) : List Off2 := (List.range i).map (itm l ws)
theorem itms_len (l : List (Int × Int)) (ws : List Int) (i : Nat) : (itms l ws i).length = i := by simp [itms]
theorem itms_succ (l : List (Int × Int)) (ws : List Int) (i : Nat) : itms l ws (i + 1) = itms l ws i ++ [itm l ws i] := (rows_snoc (itm l ws) i).symm
theorem itms_ok (l : List (Int × Int)) (ws : List Int) (i : Nat) : ∀ o ∈ itms l ws i, (0 ≤ o.1 ∧ o.1 ≤ 1000) ∧ (0 ≤ o.2.1 ∧ o.2.1 ≤ 1000) ∧ 1 ≤ o.2.2 ∧ o.2.2 ≤ 15 := fun o ho => by
  simp only [itms, List.mem_map] at ho
  obtain ⟨j, _, rfl⟩ := ho
  have h1 := modI_bounds (nth l j).1 (n := 1001) (by omega)
  have h2 := modI_bounds (nth l j).2 (n := 1001) (by omega)
  have h3 := modI_bounds (nth ws j) (n := 15) (by omega)
  simp only [itm]; omega
def cl (lt : Int) (os : List Off2) : List (List AV) := [os.map fun o => LP (offO o), os.map fun o => LP (oneO lt o), os.map fun o => I o.1, os.map fun o => I o.2.1, os.map fun _ => LI [], os.map fun o => LI [o.2.2]]
theorem offs_O {os : List Off2} (hk : os.length ≤ 5) (ho : ∀ o ∈ os, (0 ≤ o.1 ∧ o.1 ≤ 1000) ∧ (0 ≤ o.2.1 ∧ o.2.1 ≤ 1000) ∧ 1 ≤ o.2.2 ∧ o.2.2 ≤ 15) : S.offsB (os.map offO) = true := by
  simp only [S.offsB, Bool.and_eq_true, decide_eq_true_eq, List.all_eq_true, List.length_map]
  refine ⟨by omega, fun r hr => ?_⟩
  obtain ⟨o, h1, rfl⟩ := List.mem_map.1 hr
  obtain ⟨h2, h3, h4⟩ := ho o h1
  simp only [S.offB, Bool.and_eq_true, decide_eq_true_eq, List.all_eq_true]
  refine ⟨fun q hq => ?_, by simp [offO], by rw [offO, sum_two]; dsimp only; omega⟩
  simp only [offO, List.mem_cons, List.not_mem_nil, or_false] at hq
  simp only [S.pairB, Bool.and_eq_true, decide_eq_true_eq]
  rcases hq with rfl | rfl <;> dsimp only <;> omega
theorem one01_b (lt x : Int) : 0 ≤ one01 lt x ∧ one01 lt x ≤ 1 := by unfold one01; split <;> omega
theorem ones_O {lt : Int} {os : List Off2} (hk : os.length ≤ 5) (ho : ∀ o ∈ os, (0 ≤ o.1 ∧ o.1 ≤ 1000) ∧ (0 ≤ o.2.1 ∧ o.2.1 ≤ 1000) ∧ 1 ≤ o.2.2 ∧ o.2.2 ≤ 15) : S.offsB (os.map (oneO lt)) = true := by
  simp only [S.offsB, Bool.and_eq_true, decide_eq_true_eq, List.all_eq_true, List.length_map]
  refine ⟨by omega, fun r hr => ?_⟩
  obtain ⟨o, h1, rfl⟩ := List.mem_map.1 hr
  obtain ⟨h2, h3, h4⟩ := ho o h1
  have b1 := one01_b lt o.1
  have b2 := one01_b lt o.2.1
  simp only [S.offB, Bool.and_eq_true, decide_eq_true_eq, List.all_eq_true]
  refine ⟨fun q hq => ?_, by simp [oneO], by rw [oneO, sum_two]; dsimp only; omega⟩
  simp only [oneO, List.mem_cons, List.not_mem_nil, or_false] at hq
  simp only [S.pairB, Bool.and_eq_true, decide_eq_true_eq]
  rcases hq with rfl | rfl <;> dsimp only <;> omega
theorem small_O (f : Off2 → List (Int × Int)) (hf : ∀ o, (f o).length = 2) {os : List Off2} (hk : os.length ≤ 5) : S.smallO (os.map f) :=
  ⟨by simp; omega, fun r hr => by obtain ⟨o, _, rfl⟩ := List.mem_map.1 hr; rw [hf]; omega⟩
theorem sum_b {f : Nat → Int} {c : Int} (hf : ∀ i, 0 ≤ f i ∧ f i ≤ c) : ∀ n : Nat, 0 ≤ sumN f n ∧ sumN f n ≤ n * c
  | 0 => by simp [sumN]
  | n + 1 => by
    have h1 := sum_b hf n
    have h2 := hf n
    rw [sumN, Int.natCast_add, Int.add_mul]
    omega
theorem rd_pos {a b : Int} (hb : 0 < b) : S.rdP a b = (a / B.gcdI a b, b / B.gcdI a b) := by
  unfold S.rdP
  rw [if_neg (by omega)]; rfl
theorem bld29 (a b : Int) : buildB Try.prog (some (.array 2 3)) (some (.agg [I 0, I 0])) [(0, I a), (1, I b)] = some (.agg [I a, I b]) := by
  simp [buildB, S.isz3, fillA, setL, AV.cells, AV.isCell]
theorem bs29 (h : Hp) (a b c d : Int) : bsB Try.prog h (some (.slice 29)) 2 [(0, .agg [I a, I b]), (1, .agg [I c, I d])] = some (LP [(a, b), (c, d)], h) := by
  have hs : isz Try.prog 29 = some 2 := by kernel_rfl
  have hz : izero Try.prog 29 = some (.agg [I 0, I 0]) := by kernel_rfl
  simp only [bsB, hs, hz]
  rfl
theorem isz22' : isz Try.prog 22 = some 1 := by kernel_rfl
theorem isz23' : isz Try.prog 23 = some 1 := by kernel_rfl
theorem izero22' : izero Try.prog 22 = some .nil := by kernel_rfl
theorem izero23' : izero Try.prog 23 = some .nil := by kernel_rfl
theorem bs22 (h : Hp) (q : List (Int × Int)) : bsB Try.prog h (some (.slice 22)) 1 [(0, LP q)] = some (.lst [[LP q]], h) := bsB_one 22 (LP q) (LP q) .nil h isz22' izero22' rfl rfl rfl (sealA_L _) rfl rfl (pure_L _)
theorem bs23 (h : Hp) (q : List Int) : bsB Try.prog h (some (.slice 23)) 1 [(0, LI q)] = some (.lst [[LI q]], h) := bsB_one 23 (LI q) (LI q) .nil h isz23' izero23' rfl rfl rfl (sealA_L _) rfl rfl (pure_L _)
theorem bs23n (h : Hp) : bsB Try.prog h (some (.slice 23)) 1 [(0, .nil)] = some (.lst [[LI []]], h) := bsB_one 23 .nil (LI []) .nil h isz23' izero23' rfl rfl rfl rfl rfl rfl (pure_L _)
theorem bs3 (h : Hp) (x : Int) : bsB Try.prog h (some (.slice 3)) 1 [(0, I x)] = some (.lst [[I x]], h) := bsB_one 3 (I x) (I x) (I 0) h S.isz3 S.izero3 rfl rfl rfl rfl rfl rfl rfl
theorem ibytes22' : ibytes Try.prog 22 = some 24 := by kernel_rfl
theorem ibytes23' : ibytes Try.prog 23 = some 24 := by kernel_rfl
theorem seal_pureA {v : AV} {fl : List AV} (l : LiveL h v fl) (hp : AV.pureL fl = true) : ∃ h', sealA h v = some (.lst (fl.map fun c => [c]), h') := by
  obtain ⟨h', e, _⟩ := seal_pureL l hp
  rcases l with ⟨rfl, rfl⟩ | ⟨q, rfl, h1, h2⟩
  · exact ⟨h', e⟩
  · exact ⟨h', e⟩

theorem map_I {α : Type} (f : α → Int) (l : List α) : (l.map fun a => I (f a)) = (l.map f).flatMap (e1 I) := by
  induction l with
  | nil => rfl
  | cons a l ih => simp only [List.map_cons, List.flatMap_cons, ih]; rfl
theorem index_two (a b : Int) (y : Nat) : idxV Try.prog (some (.array 2 3)) (.agg [I a, I b]) (I ((y % 2 : Nat) : Int)) = some (I (if y % 2 = 1 then b else a)) := by
  rcases Nat.mod_two_eq_zero_or_one y with h | h
  · rw [h]; kernel_rfl
  · rw [h]; kernel_rfl
theorem netP_cells (os : List Off2) : (os.map fun _ => LI []).map (fun c => [c]) = (netP os.length).map (e1 LI) := by
  induction os with
  | nil => rfl
  | cons o os ih =>
    show [LI []] :: (os.map fun _ => LI []).map (fun c => [c]) = [LI []] :: (netP os.length).map (e1 LI)
    rw [ih]
theorem netT_cells (os : List Off2) : (os.map fun o => LI [o.2.2]).map (fun c => [c]) = (netT os).map (e1 LI) := by
  rw [netT, List.map_map, List.map_map]; rfl
theorem topN_x (os : List Off2) (x : Nat) {k : Nat} (hk : os.length = k) : topN os x k = topO os 0 x := by subst hk; exact topN_top os x
theorem nth_map_of {α : Type} [Inhabited α] (f : α → Int) (l : List α) {i : Nat} (h : i < l.length) : nth (l.map f) i = f (nth l i) := by
  rw [nth, List.getElem?_map, nth_get h]; rfl
set_option maxHeartbeats 4000000 in
theorem f3_con (l : List (Int × Int)) (ws : List Int) (lst : Int) (hl : l.length ≤ maxLen) (hw : ws.length ≤ maxLen) : Con Try.prog cfgP 3 [LP l, LI ws, I lst] (.bool true) := by
  have ml : maxLen = 9223372036854775807 := by decide
  have k5l := fun h h' K => ConW_num (h := h) (h' := h') (K := K) (p5_con lst 1001 (by omega) (by omega)) rfl
  have hlt := modI_bounds lst (n := 1001) (by omega)
  generalize modI lst 1001 = lt at *
  have hd1 : ∀ x y : AV, (List.drop 1 [x, y])[0]? = some y := fun _ _ => rfl
  have hal : ∀ g : Hp, allocB g (some (.agg [.nil, .nil])) = some (.ptr g.nx 0, g.alloc (.cells false false [.nil, .nil])) := fun g => allocB_agg _ rfl
  obtain ⟨k, hk⟩ : ∃ k, k = min l.length 5 := ⟨_, rfl⟩
  refine Con_intro Try.func3 rfl okP3 (Nat.le_of_ble_eq_true rfl) rfl ?_
  simp only [Try.f3, Option.getD_some, initSt3]
  simp (disch := first | (simp only [go_sem, Bool.and_self, eq_self]; done) | omega | (simp only [List.length_cons, List.length_nil]; omega)) only [go_sem, ↓reduceIte, Nat.reduceEqDiff, Nat.reduceAdd, Nat.reduceMul, Nat.reduceSub, Int.reduceToNat, Nat.reduceBEq, List.size_toArray, List.length_cons, List.length_nil, Bool.false_and, Bool.true_and, Bool.or_false, Bool.false_or, Bool.and_false, Bool.and_true, hal, k5l]
  refine WP_cut (fun st h => st 0 = LP l ∧ st 1 = LI ws ∧ st 2 = I lt ∧ st 6 = .bool false ∧ st 7 = .ptr 0 0 ∧ ∃ v8 v9 v10 v11 pv tv, st 8 = v8 ∧ st 9 = v9 ∧ st 10 = v10 ∧ st 11 = v11 ∧ 1 ≤ h.nx ∧ h.bl 0 = some (.cells false false [pv, tv]) ∧ Many h [v8, v9, v10, v11, pv, tv] (cl lt (itms l ws k))) ?_ ?_
  · refine WP_for 12 k (fun i st h => st 0 = LP l ∧ st 1 = LI ws ∧ st 2 = I lt ∧ st 6 = .bool false ∧ st 7 = .ptr 0 0 ∧ ∃ v8 v9 v10 v11 pv tv, st 8 = v8 ∧ st 9 = v9 ∧ st 10 = v10 ∧ st 11 = v11 ∧ 1 ≤ h.nx ∧ h.bl 0 = some (.cells false false [pv, tv]) ∧ Many h [v8, v9, v10, v11, pv, tv] (cl lt (itms l ws i))) (by simp (disch := first | (simp only [go_sem, Bool.and_self, eq_self]; done) | omega | (simp only [List.length_cons, List.length_nil]; omega)) only [go_sem, ↓reduceIte, Nat.reduceEqDiff, Nat.reduceAdd, Nat.reduceMul, Nat.reduceSub, Int.reduceToNat, Nat.reduceBEq, List.size_toArray, List.length_cons, List.length_nil, Bool.false_and, Bool.true_and, Bool.or_false, Bool.false_or, Bool.and_false, Bool.and_true]) ⟨by simp [upd, Hp.put, Hp.alloc], by simp [upd, Hp.put, Hp.alloc], by simp [upd, Hp.put, Hp.alloc], by simp [upd, Hp.put, Hp.alloc], by simp [upd, Hp.put, Hp.alloc], .nil, .nil, .nil, .nil, .nil, .nil, by simp (disch := first | (simp only [go_sem, Bool.and_self, eq_self]; done) | omega | (simp only [List.length_cons, List.length_nil]; omega)) only [go_sem, ↓reduceIte, Nat.reduceEqDiff, Nat.reduceAdd, Nat.reduceMul, Nat.reduceSub, Int.reduceToNat, Nat.reduceBEq, List.size_toArray, List.length_cons, List.length_nil, Bool.false_and, Bool.true_and, Bool.or_false, Bool.false_or, Bool.and_false, Bool.and_true], by simp (disch := first | (simp only [go_sem, Bool.and_self, eq_self]; done) | omega | (simp only [List.length_cons, List.length_nil]; omega)) only [go_sem, ↓reduceIte, Nat.reduceEqDiff, Nat.reduceAdd, Nat.reduceMul, Nat.reduceSub, Int.reduceToNat, Nat.reduceBEq, List.size_toArray, List.length_cons, List.length_nil, Bool.false_and, Bool.true_and, Bool.or_false, Bool.false_or, Bool.and_false, Bool.and_true], by simp (disch := first | (simp only [go_sem, Bool.and_self, eq_self]; done) | omega | (simp only [List.length_cons, List.length_nil]; omega)) only [go_sem, ↓reduceIte, Nat.reduceEqDiff, Nat.reduceAdd, Nat.reduceMul, Nat.reduceSub, Int.reduceToNat, Nat.reduceBEq, List.size_toArray, List.length_cons, List.length_nil, Bool.false_and, Bool.true_and, Bool.or_false, Bool.false_or, Bool.and_false, Bool.and_true], by simp (disch := first | (simp only [go_sem, Bool.and_self, eq_self]; done) | omega | (simp only [List.length_cons, List.length_nil]; omega)) only [go_sem, ↓reduceIte, Nat.reduceEqDiff, Nat.reduceAdd, Nat.reduceMul, Nat.reduceSub, Int.reduceToNat, Nat.reduceBEq, List.size_toArray, List.length_cons, List.length_nil, Bool.false_and, Bool.true_and, Bool.or_false, Bool.false_or, Bool.and_false, Bool.and_true], by simp (disch := first | (simp only [go_sem, Bool.and_self, eq_self]; done) | omega | (simp only [List.length_cons, List.length_nil]; omega)) only [go_sem, ↓reduceIte, Nat.reduceEqDiff, Nat.reduceAdd, Nat.reduceMul, Nat.reduceSub, Int.reduceToNat, Nat.reduceBEq, List.size_toArray, List.length_cons, List.length_nil, Bool.false_and, Bool.true_and, Bool.or_false, Bool.false_or, Bool.and_false, Bool.and_true, Nat.le_refl], by simp (disch := first | (simp only [go_sem, Bool.and_self, eq_self]; done) | omega | (simp only [List.length_cons, List.length_nil]; omega)) only [go_sem, ↓reduceIte, Nat.reduceEqDiff, Nat.reduceAdd, Nat.reduceMul, Nat.reduceSub, Int.reduceToNat, Nat.reduceBEq, List.size_toArray, List.length_cons, List.length_nil, Bool.false_and, Bool.true_and, Bool.or_false, Bool.false_or, Bool.and_false, Bool.and_true], ?_⟩ ?_
    · refine ⟨rfl, fun j v hj => ?_, fun i j v w hne hi hj a ha => ?_⟩
      · have hj6 : j < 6 := (List.getElem?_eq_some_iff.1 hj).1
        have : v = .nil := by
          match j, hj6, hj with
          | 0, _, hj => exact (Option.some.inj hj).symm
          | 1, _, hj => exact (Option.some.inj hj).symm
          | 2, _, hj => exact (Option.some.inj hj).symm
          | 3, _, hj => exact (Option.some.inj hj).symm
          | 4, _, hj => exact (Option.some.inj hj).symm
          | 5, _, hj => exact (Option.some.inj hj).symm
        subst this
        refine .inl ⟨rfl, ?_⟩
        match j, hj6 with
        | 0, _ => rfl
        | 1, _ => rfl
        | 2, _ => rfl
        | 3, _ => rfl
        | 4, _ => rfl
        | 5, _ => rfl
      · have hi6 : i < 6 := (List.getElem?_eq_some_iff.1 hi).1
        have : v = .nil := by
          match i, hi6, hi with
          | 0, _, hj => exact (Option.some.inj hj).symm
          | 1, _, hj => exact (Option.some.inj hj).symm
          | 2, _, hj => exact (Option.some.inj hj).symm
          | 3, _, hj => exact (Option.some.inj hj).symm
          | 4, _, hj => exact (Option.some.inj hj).symm
          | 5, _, hj => exact (Option.some.inj hj).symm
        subst this
        simp [rowIds] at ha
    rintro i st h hi s12 ⟨s0, s1, s2, s6, s7, v8, v9, v10, v11, pv, tv, s8, s9, s10, s11, hnx, b0, m0⟩
    by_cases hil : i < l.length
    case neg =>
      have hie : i = k := by omega
      subst hie
      simp (disch := first | (simp only [go_sem, Bool.and_self, eq_self]; done) | omega | (simp only [List.length_cons, List.length_nil]; omega)) only [go_sem, ↓reduceIte, Nat.reduceEqDiff, Nat.reduceAdd, Nat.reduceMul, Nat.reduceSub, Int.reduceToNat, Nat.reduceBEq, List.size_toArray, List.length_cons, List.length_nil, Bool.false_and, Bool.true_and, Bool.or_false, Bool.false_or, Bool.and_false, Bool.and_true, s0, s1, s2, s6, s7, s12, hil, s8, s9, s10, s11]
      exact ⟨_, _, _, _, pv, tv, rfl, rfl, rfl, rfl, hnx, b0, m0⟩
    have hil' : (i : Int) < l.length := by omega
    by_cases h5 : (i : Int) < 5
    case neg =>
      have hie : i = k := by omega
      subst hie
      simp (disch := first | (simp only [go_sem, Bool.and_self, eq_self]; done) | omega | (simp only [List.length_cons, List.length_nil]; omega)) only [go_sem, ↓reduceIte, Nat.reduceEqDiff, Nat.reduceAdd, Nat.reduceMul, Nat.reduceSub, Int.reduceToNat, Nat.reduceBEq, List.size_toArray, List.length_cons, List.length_nil, Bool.false_and, Bool.true_and, Bool.or_false, Bool.false_or, Bool.and_false, Bool.and_true, s0, s1, s2, s6, s7, s12, hil, h5, s8, s9, s10, s11]
      exact ⟨_, _, _, _, pv, tv, rfl, rfl, rfl, rfl, hnx, b0, m0⟩
    have hik : i < k := by omega
    have ka := fun h h' K => ConW_num (h := h) (h' := h') (K := K) (p5_con (nth l i).1 1001 (by omega) (by omega)) rfl
    have kb := fun h h' K => ConW_num (h := h) (h' := h') (K := K) (p5_con (nth l i).2 1001 (by omega) (by omega)) rfl
    have kc := fun h h' K => ConW_num (h := h) (h' := h') (K := K) (p6_con ws i (by omega)) rfl
    have kd := fun h h' K => ConW_num (h := h) (h' := h') (K := K) (p5_con (nth ws i) 15 (by omega) (by omega)) rfl
    have ba := modI_bounds (nth l i).1 (n := 1001) (by omega)
    have bb := modI_bounds (nth l i).2 (n := 1001) (by omega)
    have bd := modI_bounds (nth ws i) (n := 15) (by omega)
    have hitm : itm l ws i = (modI (nth l i).1 1001, modI (nth l i).2 1001, 1 + modI (nth ws i) 15) := rfl
    generalize modI (nth l i).1 1001 = a at *
    generalize modI (nth l i).2 1001 = b at *
    generalize modI (nth ws i) 15 = d at *
    obtain ⟨w, hwd⟩ : ∃ w, w = 1 + d := ⟨_, rfl⟩
    rw [← hwd] at hitm
    have hol := itms_len l ws i
    generalize hos : itms l ws i = os at *
    simp (disch := first | (simp only [go_sem, Bool.and_self, eq_self]; done) | omega | (simp only [List.length_cons, List.length_nil]; omega)) only [go_sem, ↓reduceIte, Nat.reduceEqDiff, Nat.reduceAdd, Nat.reduceMul, Nat.reduceSub, Int.reduceToNat, Nat.reduceBEq, List.size_toArray, List.length_cons, List.length_nil, Bool.false_and, Bool.true_and, Bool.or_false, Bool.false_or, Bool.and_false, Bool.and_true, s0, s1, s2, s6, s7, s12, hil, hil', h5, s8, s9, s10, s11, ka, kb, kc, kd, hd1, ↓stopZ 10 false]
    refine WPz_go (fun st g => (st 0 = LP l ∧ st 1 = LI ws ∧ st 2 = I lt ∧ st 6 = .bool false ∧ st 7 = .ptr 0 0 ∧ st 12 = I i ∧ st 13 = I a ∧ st 14 = I b ∧ st 15 = I w) ∧ st 8 = v8 ∧ st 9 = v9 ∧ st 10 = v10 ∧ st 11 = v11 ∧ g = h) ⟨⟨by simp [upd, Hp.put, Hp.alloc, s0, s1, s2, s6, s7], by simp [upd, Hp.put, Hp.alloc, s0, s1, s2, s6, s7], by simp [upd, Hp.put, Hp.alloc, s0, s1, s2, s6, s7], by simp [upd, Hp.put, Hp.alloc, s0, s1, s2, s6, s7], by simp [upd, Hp.put, Hp.alloc, s0, s1, s2, s6, s7], by simp (disch := first | (simp only [go_sem, Bool.and_self, eq_self]; done) | omega | (simp only [List.length_cons, List.length_nil]; omega)) only [go_sem, ↓reduceIte, Nat.reduceEqDiff, Nat.reduceAdd, Nat.reduceMul, Nat.reduceSub, Int.reduceToNat, Nat.reduceBEq, List.size_toArray, List.length_cons, List.length_nil, Bool.false_and, Bool.true_and, Bool.or_false, Bool.false_or, Bool.and_false, Bool.and_true, s12], by simp (disch := first | (simp only [go_sem, Bool.and_self, eq_self]; done) | omega | (simp only [List.length_cons, List.length_nil]; omega)) only [go_sem, ↓reduceIte, Nat.reduceEqDiff, Nat.reduceAdd, Nat.reduceMul, Nat.reduceSub, Int.reduceToNat, Nat.reduceBEq, List.size_toArray, List.length_cons, List.length_nil, Bool.false_and, Bool.true_and, Bool.or_false, Bool.false_or, Bool.and_false, Bool.and_true], by simp (disch := first | (simp only [go_sem, Bool.and_self, eq_self]; done) | omega | (simp only [List.length_cons, List.length_nil]; omega)) only [go_sem, ↓reduceIte, Nat.reduceEqDiff, Nat.reduceAdd, Nat.reduceMul, Nat.reduceSub, Int.reduceToNat, Nat.reduceBEq, List.size_toArray, List.length_cons, List.length_nil, Bool.false_and, Bool.true_and, Bool.or_false, Bool.false_or, Bool.and_false, Bool.and_true], by simp (disch := first | (simp only [go_sem, Bool.and_self, eq_self]; done) | omega | (simp only [List.length_cons, List.length_nil]; omega)) only [go_sem, ↓reduceIte, Nat.reduceEqDiff, Nat.reduceAdd, Nat.reduceMul, Nat.reduceSub, Int.reduceToNat, Nat.reduceBEq, List.size_toArray, List.length_cons, List.length_nil, Bool.false_and, Bool.true_and, Bool.or_false, Bool.false_or, Bool.and_false, Bool.and_true, hwd]⟩, by simp (disch := first | (simp only [go_sem, Bool.and_self, eq_self]; done) | omega | (simp only [List.length_cons, List.length_nil]; omega)) only [go_sem, ↓reduceIte, Nat.reduceEqDiff, Nat.reduceAdd, Nat.reduceMul, Nat.reduceSub, Int.reduceToNat, Nat.reduceBEq, List.size_toArray, List.length_cons, List.length_nil, Bool.false_and, Bool.true_and, Bool.or_false, Bool.false_or, Bool.and_false, Bool.and_true, s8], by simp (disch := first | (simp only [go_sem, Bool.and_self, eq_self]; done) | omega | (simp only [List.length_cons, List.length_nil]; omega)) only [go_sem, ↓reduceIte, Nat.reduceEqDiff, Nat.reduceAdd, Nat.reduceMul, Nat.reduceSub, Int.reduceToNat, Nat.reduceBEq, List.size_toArray, List.length_cons, List.length_nil, Bool.false_and, Bool.true_and, Bool.or_false, Bool.false_or, Bool.and_false, Bool.and_true, s9], by simp (disch := first | (simp only [go_sem, Bool.and_self, eq_self]; done) | omega | (simp only [List.length_cons, List.length_nil]; omega)) only [go_sem, ↓reduceIte, Nat.reduceEqDiff, Nat.reduceAdd, Nat.reduceMul, Nat.reduceSub, Int.reduceToNat, Nat.reduceBEq, List.size_toArray, List.length_cons, List.length_nil, Bool.false_and, Bool.true_and, Bool.or_false, Bool.false_or, Bool.and_false, Bool.and_true, s10], by simp (disch := first | (simp only [go_sem, Bool.and_self, eq_self]; done) | omega | (simp only [List.length_cons, List.length_nil]; omega)) only [go_sem, ↓reduceIte, Nat.reduceEqDiff, Nat.reduceAdd, Nat.reduceMul, Nat.reduceSub, Int.reduceToNat, Nat.reduceBEq, List.size_toArray, List.length_cons, List.length_nil, Bool.false_and, Bool.true_and, Bool.or_false, Bool.false_or, Bool.and_false, Bool.and_true, s11], by simp (disch := first | (simp only [go_sem, Bool.and_self, eq_self]; done) | omega | (simp only [List.length_cons, List.length_nil]; omega)) only [go_sem, ↓reduceIte, Nat.reduceEqDiff, Nat.reduceAdd, Nat.reduceMul, Nat.reduceSub, Int.reduceToNat, Nat.reduceBEq, List.size_toArray, List.length_cons, List.length_nil, Bool.false_and, Bool.true_and, Bool.or_false, Bool.false_or, Bool.and_false, Bool.and_true]⟩ ?_
    clear s8 s9 s10 s11 s12 s0 s1 s2 s6 s7 ka kb kc kd
    rintro st h ⟨⟨s0, s1, s2, s6, s7, s12, s13, s14, s15⟩, s8, s9, s10, s11, rfl⟩
    have hmp : ∀ {β : Type} (f : Off2 → β), (os.map f).length ≤ 1000 := fun f => by rw [List.length_map]; omega
    obtain ⟨V10, G1, p1, c1, n1, f1, m1⟩ := m0.grow (P := Try.prog) 2 rfl (I a) rfl 3 S.isz3 S.ibytes3 (by decide) S.izero3 rfl (hmp _)
    have b1 := f1 0 _ _ b0 (by omega)
    obtain ⟨V11, G2, p2, c2, n2, f2, m2⟩ := m1.grow (P := Try.prog) 3 rfl (I b) rfl 3 S.isz3 S.ibytes3 (by decide) S.izero3 rfl (hmp _)
    have b2 := f2 0 _ _ b1 (by omega)
    obtain ⟨PV, G3, p3, c3, n3, f3, m3⟩ := m2.grow (P := Try.prog) 4 rfl (LI []) rfl 23 isz23' ibytes23' (by decide) izero23' rfl (hmp _)
    have b3 := f3 0 _ _ b2 (by omega)
    have ctv := (m3.own 5 tv rfl).cell
    have cpv := (m2.own 4 pv rfl).cell
    have st3 : ∀ g : Hp, storeC g 0 0 1 (some (.cells false false [pv, tv])) [PV] = some (.skp, g.put 0 (some (.cells false false [PV, tv]))) := fun g => by simp [storeC, setL, c3.2, ctv, cpv]
    obtain ⟨G4, hG4⟩ : ∃ G4, G4 = G3.put 0 (some (.cells false false [PV, tv])) := ⟨_, rfl⟩
    have m4 := m3.put b3 (some (.cells false false [PV, tv]))
    rw [← hG4] at m4
    have b4 : G4.bl 0 = some (.cells false false [PV, tv]) := by rw [hG4, put_bl, if_pos rfl]
    have n4 : G4.nx = G3.nx := by rw [hG4]; rfl
    obtain ⟨TV, G5, p5, c5, n5, f5, m5⟩ := m4.grow (P := Try.prog) 5 rfl (LI [w]) rfl 23 isz23' ibytes23' (by decide) izero23' rfl (hmp _)
    have b5 := f5 0 _ _ b4 (by omega)
    have st5 : ∀ g : Hp, storeC g 0 1 1 (some (.cells false false [PV, tv])) [TV] = some (.skp, g.put 0 (some (.cells false false [PV, TV]))) := fun g => by simp [storeC, setL, c3.2, c5.2, ctv]
    obtain ⟨G6, hG6⟩ : ∃ G6, G6 = G5.put 0 (some (.cells false false [PV, TV])) := ⟨_, rfl⟩
    have m6 := m5.put b5 (some (.cells false false [PV, TV]))
    rw [← hG6] at m6
    have b6 : G6.bl 0 = some (.cells false false [PV, TV]) := by rw [hG6, put_bl, if_pos rfl]
    have n6 : G6.nx = G5.nx := by rw [hG6]; rfl
    obtain ⟨V8, G7, p7, c7, n7, f7, m7⟩ := m6.grow (P := Try.prog) 0 rfl (LP [(a, 16 - w), (b, w)]) rfl 22 isz22' ibytes22' (by decide) izero22' rfl (hmp _)
    have b7 := f7 0 _ _ b6 (by omega)
    obtain ⟨V9, G8, p8, c8, n8, f8, m8⟩ := m7.grow (P := Try.prog) 1 rfl (LP [(one01 lt a, 16 - w), (one01 lt b, w)]) rfl 22 isz22' ibytes22' (by decide) izero22' rfl (hmp _)
    have b8 := f8 0 _ _ b7 (by omega)
    have m8 : Many G8 [V8, V9, V10, V11, PV, TV] (cl lt (itms l ws (i + 1))) := by
      have e8 : cl lt (os ++ [(a, b, w)]) = [os.map (fun o => LP (offO o)) ++ [LP [(a, 16 - w), (b, w)]], os.map (fun o => LP (oneO lt o)) ++ [LP [(one01 lt a, 16 - w), (one01 lt b, w)]], os.map (fun o => I o.1) ++ [I a], os.map (fun o => I o.2.1) ++ [I b], os.map (fun _ => LI []) ++ [LI []], os.map (fun o => LI [o.2.2]) ++ [LI [w]]] := by
        simp only [cl, List.map_append, List.map_cons, List.map_nil]
        rfl
      rw [itms_succ, hos, hitm, e8]
      exact m8
    have bs23' : ∀ (h : Hp) (x : Int), bsB Try.prog h (some (.slice 23)) 1 [(0, .lst [[I x]])] = some (.lst [[LI [x]]], h) := fun h x => bs23 h [x]
    clear m0 m1 m2 m3 m4 m5 m6 m7 f1 f2 f3 f5 f7 f8
    simp (disch := first | (simp only [go_sem, Bool.and_self, eq_self]; done) | omega | (simp only [List.length_cons, List.length_nil]; omega)) only [go_sem, ↓reduceIte, Nat.reduceEqDiff, Nat.reduceAdd, Nat.reduceMul, Nat.reduceSub, Int.reduceToNat, Nat.reduceBEq, List.size_toArray, List.length_cons, List.length_nil, Bool.false_and, Bool.true_and, Bool.or_false, Bool.false_or, Bool.and_false, Bool.and_true, s0, s1, s2, s6, s7, s8, s9, s10, s11, s12, s13, s14, s15, bs3, p1, p2, b2, bs23n, p3, c3.1, b3, st3, ← hG4, bs23', p5, c5.1, b5, st5, ← hG6, bld29, bs29, bs22, p7, ↓stopZ 17 false]
    refine WPz_go (fun st g => (st 0 = LP l ∧ st 1 = LI ws ∧ st 2 = I lt ∧ st 6 = .bool false ∧ st 7 = .ptr 0 0 ∧ st 12 = I i ∧ st 13 = I a ∧ st 14 = I b ∧ st 15 = I w) ∧ st 8 = V8 ∧ st 9 = v9 ∧ st 10 = V10 ∧ st 11 = V11 ∧ st 18 = I 0 ∧ st 19 = I 0 ∧ g = G7) ⟨⟨by simp [upd, Hp.put, Hp.alloc, s0, s1, s2, s6, s7], by simp [upd, Hp.put, Hp.alloc, s0, s1, s2, s6, s7], by simp [upd, Hp.put, Hp.alloc, s0, s1, s2, s6, s7], by simp [upd, Hp.put, Hp.alloc, s0, s1, s2, s6, s7], by simp [upd, Hp.put, Hp.alloc, s0, s1, s2, s6, s7], by simp (disch := first | (simp only [go_sem, Bool.and_self, eq_self]; done) | omega | (simp only [List.length_cons, List.length_nil]; omega)) only [go_sem, ↓reduceIte, Nat.reduceEqDiff, Nat.reduceAdd, Nat.reduceMul, Nat.reduceSub, Int.reduceToNat, Nat.reduceBEq, List.size_toArray, List.length_cons, List.length_nil, Bool.false_and, Bool.true_and, Bool.or_false, Bool.false_or, Bool.and_false, Bool.and_true, s12], by simp (disch := first | (simp only [go_sem, Bool.and_self, eq_self]; done) | omega | (simp only [List.length_cons, List.length_nil]; omega)) only [go_sem, ↓reduceIte, Nat.reduceEqDiff, Nat.reduceAdd, Nat.reduceMul, Nat.reduceSub, Int.reduceToNat, Nat.reduceBEq, List.size_toArray, List.length_cons, List.length_nil, Bool.false_and, Bool.true_and, Bool.or_false, Bool.false_or, Bool.and_false, Bool.and_true, s13], by simp (disch := first | (simp only [go_sem, Bool.and_self, eq_self]; done) | omega | (simp only [List.length_cons, List.length_nil]; omega)) only [go_sem, ↓reduceIte, Nat.reduceEqDiff, Nat.reduceAdd, Nat.reduceMul, Nat.reduceSub, Int.reduceToNat, Nat.reduceBEq, List.size_toArray, List.length_cons, List.length_nil, Bool.false_and, Bool.true_and, Bool.or_false, Bool.false_or, Bool.and_false, Bool.and_true, s14], by simp (disch := first | (simp only [go_sem, Bool.and_self, eq_self]; done) | omega | (simp only [List.length_cons, List.length_nil]; omega)) only [go_sem, ↓reduceIte, Nat.reduceEqDiff, Nat.reduceAdd, Nat.reduceMul, Nat.reduceSub, Int.reduceToNat, Nat.reduceBEq, List.size_toArray, List.length_cons, List.length_nil, Bool.false_and, Bool.true_and, Bool.or_false, Bool.false_or, Bool.and_false, Bool.and_true, s15]⟩, by simp (disch := first | (simp only [go_sem, Bool.and_self, eq_self]; done) | omega | (simp only [List.length_cons, List.length_nil]; omega)) only [go_sem, ↓reduceIte, Nat.reduceEqDiff, Nat.reduceAdd, Nat.reduceMul, Nat.reduceSub, Int.reduceToNat, Nat.reduceBEq, List.size_toArray, List.length_cons, List.length_nil, Bool.false_and, Bool.true_and, Bool.or_false, Bool.false_or, Bool.and_false, Bool.and_true], by simp (disch := first | (simp only [go_sem, Bool.and_self, eq_self]; done) | omega | (simp only [List.length_cons, List.length_nil]; omega)) only [go_sem, ↓reduceIte, Nat.reduceEqDiff, Nat.reduceAdd, Nat.reduceMul, Nat.reduceSub, Int.reduceToNat, Nat.reduceBEq, List.size_toArray, List.length_cons, List.length_nil, Bool.false_and, Bool.true_and, Bool.or_false, Bool.false_or, Bool.and_false, Bool.and_true, s9], by simp (disch := first | (simp only [go_sem, Bool.and_self, eq_self]; done) | omega | (simp only [List.length_cons, List.length_nil]; omega)) only [go_sem, ↓reduceIte, Nat.reduceEqDiff, Nat.reduceAdd, Nat.reduceMul, Nat.reduceSub, Int.reduceToNat, Nat.reduceBEq, List.size_toArray, List.length_cons, List.length_nil, Bool.false_and, Bool.true_and, Bool.or_false, Bool.false_or, Bool.and_false, Bool.and_true], by simp (disch := first | (simp only [go_sem, Bool.and_self, eq_self]; done) | omega | (simp only [List.length_cons, List.length_nil]; omega)) only [go_sem, ↓reduceIte, Nat.reduceEqDiff, Nat.reduceAdd, Nat.reduceMul, Nat.reduceSub, Int.reduceToNat, Nat.reduceBEq, List.size_toArray, List.length_cons, List.length_nil, Bool.false_and, Bool.true_and, Bool.or_false, Bool.false_or, Bool.and_false, Bool.and_true], by simp (disch := first | (simp only [go_sem, Bool.and_self, eq_self]; done) | omega | (simp only [List.length_cons, List.length_nil]; omega)) only [go_sem, ↓reduceIte, Nat.reduceEqDiff, Nat.reduceAdd, Nat.reduceMul, Nat.reduceSub, Int.reduceToNat, Nat.reduceBEq, List.size_toArray, List.length_cons, List.length_nil, Bool.false_and, Bool.true_and, Bool.or_false, Bool.false_or, Bool.and_false, Bool.and_true], by simp (disch := first | (simp only [go_sem, Bool.and_self, eq_self]; done) | omega | (simp only [List.length_cons, List.length_nil]; omega)) only [go_sem, ↓reduceIte, Nat.reduceEqDiff, Nat.reduceAdd, Nat.reduceMul, Nat.reduceSub, Int.reduceToNat, Nat.reduceBEq, List.size_toArray, List.length_cons, List.length_nil, Bool.false_and, Bool.true_and, Bool.or_false, Bool.false_or, Bool.and_false, Bool.and_true], by simp (disch := first | (simp only [go_sem, Bool.and_self, eq_self]; done) | omega | (simp only [List.length_cons, List.length_nil]; omega)) only [go_sem, ↓reduceIte, Nat.reduceEqDiff, Nat.reduceAdd, Nat.reduceMul, Nat.reduceSub, Int.reduceToNat, Nat.reduceBEq, List.size_toArray, List.length_cons, List.length_nil, Bool.false_and, Bool.true_and, Bool.or_false, Bool.false_or, Bool.and_false, Bool.and_true]⟩ ?_
    clear s8 s9 s10 s11 s12 s13 s14 s15 s0 s1 s2 s6 s7 p1 p2 p3 p5 p7 b1 b2 b3 b4 b5 b6 st3 st5 b0
    rintro st g ⟨⟨s0, s1, s2, s6, s7, s12, s13, s14, s15⟩, s8, s9, s10, s11, s18, s19, rfl⟩
    have fin : ∀ st : St, (st 0 = LP l ∧ st 1 = LI ws ∧ st 2 = I lt ∧ st 6 = .bool false ∧ st 7 = .ptr 0 0) → st 12 = I ((i + 1 : Nat) : Int) → st 8 = V8 → st 9 = V9 → st 10 = V10 → st 11 = V11 → True := fun _ _ _ _ _ _ _ => trivial
    by_cases ha : lt ≤ a <;> by_cases hb : lt ≤ b
    all_goals
      first
      | rw [show one01 lt a = 1 from if_pos ha] at p8
      | rw [show one01 lt a = 0 from if_neg ha] at p8
    all_goals
      first
      | rw [show one01 lt b = 1 from if_pos hb] at p8
      | rw [show one01 lt b = 0 from if_neg hb] at p8
    all_goals
      simp (disch := first | (simp only [go_sem, Bool.and_self, eq_self]; done) | omega | (simp only [List.length_cons, List.length_nil]; omega)) only [go_sem, ↓reduceIte, Nat.reduceEqDiff, Nat.reduceAdd, Nat.reduceMul, Nat.reduceSub, Int.reduceToNat, Nat.reduceBEq, List.size_toArray, List.length_cons, List.length_nil, Bool.false_and, Bool.true_and, Bool.or_false, Bool.false_or, Bool.and_false, Bool.and_true, s0, s1, s2, s6, s7, s8, s9, s10, s11, s12, s13, s14, s15, s18, s19, ha, hb, decide_true, decide_false, bld29, bs29, bs22, p8]
      rw [ForK_normal]
      exact ⟨hik, by simp (disch := first | (simp only [go_sem, Bool.and_self, eq_self]; done) | omega | (simp only [List.length_cons, List.length_nil]; omega)) only [go_sem, ↓reduceIte, Nat.reduceEqDiff, Nat.reduceAdd, Nat.reduceMul, Nat.reduceSub, Int.reduceToNat, Nat.reduceBEq, List.size_toArray, List.length_cons, List.length_nil, Bool.false_and, Bool.true_and, Bool.or_false, Bool.false_or, Bool.and_false, Bool.and_true, s12], by simp [upd, Hp.put, Hp.alloc, s0], by simp [upd, Hp.put, Hp.alloc, s1], by simp [upd, Hp.put, Hp.alloc, s2], by simp [upd, Hp.put, Hp.alloc, s6], by simp [upd, Hp.put, Hp.alloc, s7], V8, V9, V10, V11, PV, TV, by simp (disch := first | (simp only [go_sem, Bool.and_self, eq_self]; done) | omega | (simp only [List.length_cons, List.length_nil]; omega)) only [go_sem, ↓reduceIte, Nat.reduceEqDiff, Nat.reduceAdd, Nat.reduceMul, Nat.reduceSub, Int.reduceToNat, Nat.reduceBEq, List.size_toArray, List.length_cons, List.length_nil, Bool.false_and, Bool.true_and, Bool.or_false, Bool.false_or, Bool.and_false, Bool.and_true, s8], by simp (disch := first | (simp only [go_sem, Bool.and_self, eq_self]; done) | omega | (simp only [List.length_cons, List.length_nil]; omega)) only [go_sem, ↓reduceIte, Nat.reduceEqDiff, Nat.reduceAdd, Nat.reduceMul, Nat.reduceSub, Int.reduceToNat, Nat.reduceBEq, List.size_toArray, List.length_cons, List.length_nil, Bool.false_and, Bool.true_and, Bool.or_false, Bool.false_or, Bool.and_false, Bool.and_true], by simp (disch := first | (simp only [go_sem, Bool.and_self, eq_self]; done) | omega | (simp only [List.length_cons, List.length_nil]; omega)) only [go_sem, ↓reduceIte, Nat.reduceEqDiff, Nat.reduceAdd, Nat.reduceMul, Nat.reduceSub, Int.reduceToNat, Nat.reduceBEq, List.size_toArray, List.length_cons, List.length_nil, Bool.false_and, Bool.true_and, Bool.or_false, Bool.false_or, Bool.and_false, Bool.and_true, s10], by simp (disch := first | (simp only [go_sem, Bool.and_self, eq_self]; done) | omega | (simp only [List.length_cons, List.length_nil]; omega)) only [go_sem, ↓reduceIte, Nat.reduceEqDiff, Nat.reduceAdd, Nat.reduceMul, Nat.reduceSub, Int.reduceToNat, Nat.reduceBEq, List.size_toArray, List.length_cons, List.length_nil, Bool.false_and, Bool.true_and, Bool.or_false, Bool.false_or, Bool.and_false, Bool.and_true, s11], by omega, b8, m8⟩
  clear hal k5l
  rintro st h ⟨s0, s1, s2, s6, s7, v8, v9, v10, v11, pv, tv, s8, s9, s10, s11, hnx, b0, m0⟩
  have hk5 : k ≤ 5 := by omega
  have hos5 := itms_len l ws k
  have hok := itms_ok l ws k
  generalize itms l ws k = os at *
  have hp8 : AV.pureL (os.map fun o => LP (offO o)) = true := pureL_all fun y hy => by
    obtain ⟨o, _, rfl⟩ := List.mem_map.1 hy
    exact pure_L _
  have hp9 : AV.pureL (os.map fun o => LP (oneO lt o)) = true := pureL_all fun y hy => by
    obtain ⟨o, _, rfl⟩ := List.mem_map.1 hy
    exact pure_L _
  obtain ⟨g8, z8⟩ := seal_pureA (m0.own 0 v8 rfl) hp8
  have z8 : sealA h v8 = some (S.LLP (os.map offO), g8) := by
    rw [z8]
    show some (AV.lst ((os.map fun o => LP (offO o)).map fun c => [c]), g8) = some (AV.lst ((os.map offO).map (e1 LP)), g8)
    rw [List.map_map, List.map_map]; rfl
  have c7 := p7_con (S.f39_con (os.map offO) (small_O offO (fun _ => rfl) (by omega)))
  have hpro : S.proR (os.map offO) = .tup [S.FR (S.rdP (S.gI (os.map offO) 0) (S.pw k)), S.FR (S.rdP (S.wI (os.map offO)) (S.pw k)), I 0] := by
    unfold S.proR
    rw [if_pos (offs_O (by omega) hok), List.length_map, hos5]
  have c8 := p8_con (S.f40_con (os.map (oneO lt)) (small_O (oneO lt) (fun _ => rfl) (by omega)) 1)
  have hthr : S.thrR (os.map (oneO lt)) 1 = .tup [S.FR (S.rdP (S.tI 1 (os.map (oneO lt))) (S.pw k)), I 0] := by
    unfold S.thrR
    rw [if_pos (ones_O (by omega) hok), List.length_map, hos5]
  rw [hpro] at c7
  rw [hthr] at c8
  have hpw := S.pw_pos k
  rw [rd_pos hpw, rd_pos hpw] at c7
  rw [rd_pos hpw] at c8
  have k7 := fun h h' K => ConW_num (h := h) (h' := h') (K := K) c7 rfl
  have k8 := fun h h' K => ConW_num (h := h) (h' := h') (K := K) c8 rfl
  have u1 : ¬ h.nx = h.nx + 1 := by omega
  have u2 : ¬ h.nx + 1 = h.nx := by omega
  obtain ⟨x1, hx1⟩ : ∃ x, x = S.gI (os.map offO) 0 := ⟨_, rfl⟩
  obtain ⟨x2, hx2⟩ : ∃ x, x = S.tI 1 (os.map (oneO lt)) := ⟨_, rfl⟩
  obtain ⟨D, hD⟩ : ∃ x, x = S.pw k := ⟨_, rfl⟩
  rw [← hx1, ← hD] at k7
  rw [← hx2, ← hD] at k8
  simp (disch := first | (simp only [go_sem, Bool.and_self, eq_self]; done) | omega | (simp only [List.length_cons, List.length_nil]; omega)) only [go_sem, ↓reduceIte, Nat.reduceEqDiff, Nat.reduceAdd, Nat.reduceMul, Nat.reduceSub, Int.reduceToNat, Nat.reduceBEq, List.size_toArray, List.length_cons, List.length_nil, Bool.false_and, Bool.true_and, Bool.or_false, Bool.false_or, Bool.and_false, Bool.and_true, s0, s1, s2, s6, s7, s8, s9, s10, s11, z8, k7, u1, u2, ↓stopZ 23 false]
  refine WPz_go (fun st g => (st 0 = LP l ∧ st 1 = LI ws ∧ st 2 = I lt ∧ st 6 = .bool false ∧ st 7 = .ptr 0 0 ∧ st 20 = .ptr h.nx 0 ∧ st 22 = I 0) ∧ st 8 = v8 ∧ st 9 = v9 ∧ st 10 = v10 ∧ st 11 = v11 ∧ h.nx < g.nx ∧ g.bl 0 = some (.cells false false [pv, tv]) ∧ g.bl h.nx = some (.cells false false [I (x1 / B.gcdI x1 D), I (D / B.gcdI x1 D)]) ∧ Many g [v8, v9, v10, v11, pv, tv] (cl lt os)) ⟨⟨by simp [upd, Hp.put, Hp.alloc, s0, s1, s2, s6, s7], by simp [upd, Hp.put, Hp.alloc, s0, s1, s2, s6, s7], by simp [upd, Hp.put, Hp.alloc, s0, s1, s2, s6, s7], by simp [upd, Hp.put, Hp.alloc, s0, s1, s2, s6, s7], by simp [upd, Hp.put, Hp.alloc, s0, s1, s2, s6, s7], by simp (disch := first | (simp only [go_sem, Bool.and_self, eq_self]; done) | omega | (simp only [List.length_cons, List.length_nil]; omega)) only [go_sem, ↓reduceIte, Nat.reduceEqDiff, Nat.reduceAdd, Nat.reduceMul, Nat.reduceSub, Int.reduceToNat, Nat.reduceBEq, List.size_toArray, List.length_cons, List.length_nil, Bool.false_and, Bool.true_and, Bool.or_false, Bool.false_or, Bool.and_false, Bool.and_true], by simp (disch := first | (simp only [go_sem, Bool.and_self, eq_self]; done) | omega | (simp only [List.length_cons, List.length_nil]; omega)) only [go_sem, ↓reduceIte, Nat.reduceEqDiff, Nat.reduceAdd, Nat.reduceMul, Nat.reduceSub, Int.reduceToNat, Nat.reduceBEq, List.size_toArray, List.length_cons, List.length_nil, Bool.false_and, Bool.true_and, Bool.or_false, Bool.false_or, Bool.and_false, Bool.and_true]⟩, by simp (disch := first | (simp only [go_sem, Bool.and_self, eq_self]; done) | omega | (simp only [List.length_cons, List.length_nil]; omega)) only [go_sem, ↓reduceIte, Nat.reduceEqDiff, Nat.reduceAdd, Nat.reduceMul, Nat.reduceSub, Int.reduceToNat, Nat.reduceBEq, List.size_toArray, List.length_cons, List.length_nil, Bool.false_and, Bool.true_and, Bool.or_false, Bool.false_or, Bool.and_false, Bool.and_true, s8], by simp (disch := first | (simp only [go_sem, Bool.and_self, eq_self]; done) | omega | (simp only [List.length_cons, List.length_nil]; omega)) only [go_sem, ↓reduceIte, Nat.reduceEqDiff, Nat.reduceAdd, Nat.reduceMul, Nat.reduceSub, Int.reduceToNat, Nat.reduceBEq, List.size_toArray, List.length_cons, List.length_nil, Bool.false_and, Bool.true_and, Bool.or_false, Bool.false_or, Bool.and_false, Bool.and_true, s9], by simp (disch := first | (simp only [go_sem, Bool.and_self, eq_self]; done) | omega | (simp only [List.length_cons, List.length_nil]; omega)) only [go_sem, ↓reduceIte, Nat.reduceEqDiff, Nat.reduceAdd, Nat.reduceMul, Nat.reduceSub, Int.reduceToNat, Nat.reduceBEq, List.size_toArray, List.length_cons, List.length_nil, Bool.false_and, Bool.true_and, Bool.or_false, Bool.false_or, Bool.and_false, Bool.and_true, s10], by simp (disch := first | (simp only [go_sem, Bool.and_self, eq_self]; done) | omega | (simp only [List.length_cons, List.length_nil]; omega)) only [go_sem, ↓reduceIte, Nat.reduceEqDiff, Nat.reduceAdd, Nat.reduceMul, Nat.reduceSub, Int.reduceToNat, Nat.reduceBEq, List.size_toArray, List.length_cons, List.length_nil, Bool.false_and, Bool.true_and, Bool.or_false, Bool.false_or, Bool.and_false, Bool.and_true, s11], by simp [upd, Hp.put, Hp.alloc]; omega, ?_, ?_, ?_⟩ ?_
  · simp [upd, Hp.put, Hp.alloc, show ¬ 0 = h.nx + 1 by omega, show ¬ 0 = h.nx by omega, b0]
  · simp [upd, Hp.put, Hp.alloc, u1]
  · refine m0.mono ?_ fun i cs hi _ => ?_
    · simp [upd, Hp.put, Hp.alloc]; omega
    · simp [upd, Hp.put, Hp.alloc, show ¬ i = h.nx + 1 by omega, show ¬ i = h.nx by omega]
  clear s8 s9 s10 s11 s0 s1 s2 s6 s7 z8 k7 u1 u2 m0 b0
  obtain ⟨B0, hB0⟩ : ∃ x, x = h.nx := ⟨_, rfl⟩
  rw [← hB0] at *
  rintro st h ⟨⟨s0, s1, s2, s6, s7, s20, s22⟩, s8, s9, s10, s11, hB, b0, bB, m0⟩
  obtain ⟨g9, z9⟩ := seal_pureA (m0.own 1 v9 rfl) hp9
  have z9 : sealA h v9 = some (S.LLP (os.map (oneO lt)), g9) := by
    rw [z9]
    show some (AV.lst ((os.map fun o => LP (oneO lt o)).map fun c => [c]), g9) = some (AV.lst ((os.map (oneO lt)).map (e1 LP)), g9)
    rw [List.map_map, List.map_map]; rfl
  have hlen8 := fun e g lim => live_lenB (m0.own 0 v8 rfl) e g lim
  have hl8 : (nth (cl lt os) 0).length = k := by show (List.map _ os).length = k; rw [List.length_map, hos5]
  rw [hl8] at hlen8
  have u1 : ¬ B0 = h.nx := by omega
  simp (disch := first | (simp only [go_sem, Bool.and_self, eq_self]; done) | omega | (simp only [List.length_cons, List.length_nil]; omega)) only [go_sem, ↓reduceIte, Nat.reduceEqDiff, Nat.reduceAdd, Nat.reduceMul, Nat.reduceSub, Int.reduceToNat, Nat.reduceBEq, List.size_toArray, List.length_cons, List.length_nil, Bool.false_and, Bool.true_and, Bool.or_false, Bool.false_or, Bool.and_false, Bool.and_true, s0, s1, s2, s6, s7, s8, s9, s10, s11, s20, s22, z9, k8, u1, hlen8, ↓stopZ 27 false]
  refine WPz_go (fun st g => (st 0 = LP l ∧ st 1 = LI ws ∧ st 2 = I lt ∧ st 6 = .bool false ∧ st 7 = .ptr 0 0 ∧ st 20 = .ptr B0 0 ∧ st 23 = .ptr h.nx 0 ∧ st 25 = I k) ∧ st 10 = v10 ∧ st 11 = v11 ∧ h.nx < g.nx ∧ g.bl 0 = some (.cells false false [pv, tv]) ∧ g.bl B0 = some (.cells false false [I (x1 / B.gcdI x1 D), I (D / B.gcdI x1 D)]) ∧ g.bl h.nx = some (.cells false false [I (x2 / B.gcdI x2 D), I (D / B.gcdI x2 D)]) ∧ Many g [v8, v9, v10, v11, pv, tv] (cl lt os)) ⟨⟨by simp [upd, Hp.put, Hp.alloc, s0, s1, s2, s6, s7], by simp [upd, Hp.put, Hp.alloc, s0, s1, s2, s6, s7], by simp [upd, Hp.put, Hp.alloc, s0, s1, s2, s6, s7], by simp [upd, Hp.put, Hp.alloc, s0, s1, s2, s6, s7], by simp [upd, Hp.put, Hp.alloc, s0, s1, s2, s6, s7], by simp (disch := first | (simp only [go_sem, Bool.and_self, eq_self]; done) | omega | (simp only [List.length_cons, List.length_nil]; omega)) only [go_sem, ↓reduceIte, Nat.reduceEqDiff, Nat.reduceAdd, Nat.reduceMul, Nat.reduceSub, Int.reduceToNat, Nat.reduceBEq, List.size_toArray, List.length_cons, List.length_nil, Bool.false_and, Bool.true_and, Bool.or_false, Bool.false_or, Bool.and_false, Bool.and_true, s20], by simp (disch := first | (simp only [go_sem, Bool.and_self, eq_self]; done) | omega | (simp only [List.length_cons, List.length_nil]; omega)) only [go_sem, ↓reduceIte, Nat.reduceEqDiff, Nat.reduceAdd, Nat.reduceMul, Nat.reduceSub, Int.reduceToNat, Nat.reduceBEq, List.size_toArray, List.length_cons, List.length_nil, Bool.false_and, Bool.true_and, Bool.or_false, Bool.false_or, Bool.and_false, Bool.and_true], by simp (disch := first | (simp only [go_sem, Bool.and_self, eq_self]; done) | omega | (simp only [List.length_cons, List.length_nil]; omega)) only [go_sem, ↓reduceIte, Nat.reduceEqDiff, Nat.reduceAdd, Nat.reduceMul, Nat.reduceSub, Int.reduceToNat, Nat.reduceBEq, List.size_toArray, List.length_cons, List.length_nil, Bool.false_and, Bool.true_and, Bool.or_false, Bool.false_or, Bool.and_false, Bool.and_true]⟩, by simp (disch := first | (simp only [go_sem, Bool.and_self, eq_self]; done) | omega | (simp only [List.length_cons, List.length_nil]; omega)) only [go_sem, ↓reduceIte, Nat.reduceEqDiff, Nat.reduceAdd, Nat.reduceMul, Nat.reduceSub, Int.reduceToNat, Nat.reduceBEq, List.size_toArray, List.length_cons, List.length_nil, Bool.false_and, Bool.true_and, Bool.or_false, Bool.false_or, Bool.and_false, Bool.and_true, s10], by simp (disch := first | (simp only [go_sem, Bool.and_self, eq_self]; done) | omega | (simp only [List.length_cons, List.length_nil]; omega)) only [go_sem, ↓reduceIte, Nat.reduceEqDiff, Nat.reduceAdd, Nat.reduceMul, Nat.reduceSub, Int.reduceToNat, Nat.reduceBEq, List.size_toArray, List.length_cons, List.length_nil, Bool.false_and, Bool.true_and, Bool.or_false, Bool.false_or, Bool.and_false, Bool.and_true, s11], by simp [upd, Hp.put, Hp.alloc], ?_, ?_, ?_, ?_⟩ ?_
  · simp [upd, Hp.put, Hp.alloc, show ¬ 0 = h.nx by omega, b0]
  · simp [upd, Hp.put, Hp.alloc, u1, bB]
  · simp [upd, Hp.put, Hp.alloc]
  · refine m0.mono ?_ fun i cs hi _ => ?_
    · simp [upd, Hp.put, Hp.alloc]
    · simp [upd, Hp.put, Hp.alloc, show ¬ i = h.nx by omega]
  clear s8 s9 s10 s11 s20 s22 s0 s1 s2 s6 s7 z9 k8 u1 hlen8
  obtain ⟨B2, hB2⟩ : ∃ x, x = h.nx := ⟨_, rfl⟩
  have hB02 : B0 < B2 := by omega
  rw [← hB2]
  rintro st h ⟨⟨s0, s1, s2, s6, s7, s20, s23, s25⟩, s10, s11, hB, b0, bB, b2, m0⟩
  have mk9 := fun h h' K => ConW_num (h := h) (h' := h') (K := K) p9_con rfl
  by_cases hk0 : k = 0
  · have he : os = [] := List.eq_nil_of_length_eq_zero (by omega)
    have e1 : x1 = 0 := by rw [hx1, he]; rfl
    have e2 : x2 = 0 := by rw [hx2, he]; rfl
    have e3 : D = 1 := by rw [hD, hk0]; rfl
    subst e1 e2 e3
    have g01 : B.gcdI 0 1 = 1 := rfl
    rw [g01] at bB b2
    simp (disch := first | (simp only [go_sem, Bool.and_self, eq_self]; done) | omega | (simp only [List.length_cons, List.length_nil]; omega)) only [go_sem, ↓reduceIte, Nat.reduceEqDiff, Nat.reduceAdd, Nat.reduceMul, Nat.reduceSub, Int.reduceToNat, Nat.reduceBEq, List.size_toArray, List.length_cons, List.length_nil, Bool.false_and, Bool.true_and, Bool.or_false, Bool.false_or, Bool.and_false, Bool.and_true, s0, s1, s2, s6, s7, s20, s23, s25, hk0, bB, b2, mk9, Int.natCast_zero, (by decide : (0 : Int) / 1 = 0), (by decide : (1 : Int) / 1 = 1), eq_self, decide_true, Bool.and_self]
  have hkp : 1 ≤ k := by omega
  have hk0' : ¬ (k : Int) = 0 := by omega
  simp (disch := first | (simp only [go_sem, Bool.and_self, eq_self]; done) | omega | (simp only [List.length_cons, List.length_nil]; omega)) only [go_sem, ↓reduceIte, Nat.reduceEqDiff, Nat.reduceAdd, Nat.reduceMul, Nat.reduceSub, Int.reduceToNat, Nat.reduceBEq, List.size_toArray, List.length_cons, List.length_nil, Bool.false_and, Bool.true_and, Bool.or_false, Bool.false_or, Bool.and_false, Bool.and_true, s0, s1, s2, s6, s7, s20, s23, s25, hk0']
  refine WP_cut (fun st g => (st 0 = LP l ∧ st 1 = LI ws ∧ st 2 = I lt ∧ st 6 = .bool false ∧ st 7 = .ptr 0 0 ∧ st 20 = .ptr B0 0 ∧ st 23 = .ptr B2 0 ∧ st 25 = I k ∧ st 10 = v10 ∧ st 11 = v11) ∧ st 26 = I (16 ^ k) ∧ g = h) ?_ ?_
  · refine WP_for 27 k (fun i st g => (st 0 = LP l ∧ st 1 = LI ws ∧ st 2 = I lt ∧ st 6 = .bool false ∧ st 7 = .ptr 0 0 ∧ st 20 = .ptr B0 0 ∧ st 23 = .ptr B2 0 ∧ st 25 = I k ∧ st 10 = v10 ∧ st 11 = v11) ∧ st 26 = I (16 ^ i) ∧ g = h) (by simp (disch := first | (simp only [go_sem, Bool.and_self, eq_self]; done) | omega | (simp only [List.length_cons, List.length_nil]; omega)) only [go_sem, ↓reduceIte, Nat.reduceEqDiff, Nat.reduceAdd, Nat.reduceMul, Nat.reduceSub, Int.reduceToNat, Nat.reduceBEq, List.size_toArray, List.length_cons, List.length_nil, Bool.false_and, Bool.true_and, Bool.or_false, Bool.false_or, Bool.and_false, Bool.and_true]) ⟨⟨by simp [upd, Hp.put, Hp.alloc, s0, s1, s2, s6, s7, s20, s23, s25], by simp [upd, Hp.put, Hp.alloc, s0, s1, s2, s6, s7, s20, s23, s25], by simp [upd, Hp.put, Hp.alloc, s0, s1, s2, s6, s7, s20, s23, s25], by simp [upd, Hp.put, Hp.alloc, s0, s1, s2, s6, s7, s20, s23, s25], by simp [upd, Hp.put, Hp.alloc, s0, s1, s2, s6, s7, s20, s23, s25], by simp [upd, Hp.put, Hp.alloc, s0, s1, s2, s6, s7, s20, s23, s25], by simp [upd, Hp.put, Hp.alloc, s0, s1, s2, s6, s7, s20, s23, s25], by simp [upd, Hp.put, Hp.alloc, s0, s1, s2, s6, s7, s20, s23, s25], by simp (disch := first | (simp only [go_sem, Bool.and_self, eq_self]; done) | omega | (simp only [List.length_cons, List.length_nil]; omega)) only [go_sem, ↓reduceIte, Nat.reduceEqDiff, Nat.reduceAdd, Nat.reduceMul, Nat.reduceSub, Int.reduceToNat, Nat.reduceBEq, List.size_toArray, List.length_cons, List.length_nil, Bool.false_and, Bool.true_and, Bool.or_false, Bool.false_or, Bool.and_false, Bool.and_true, s10], by simp (disch := first | (simp only [go_sem, Bool.and_self, eq_self]; done) | omega | (simp only [List.length_cons, List.length_nil]; omega)) only [go_sem, ↓reduceIte, Nat.reduceEqDiff, Nat.reduceAdd, Nat.reduceMul, Nat.reduceSub, Int.reduceToNat, Nat.reduceBEq, List.size_toArray, List.length_cons, List.length_nil, Bool.false_and, Bool.true_and, Bool.or_false, Bool.false_or, Bool.and_false, Bool.and_true, s11]⟩, by simp (disch := first | (simp only [go_sem, Bool.and_self, eq_self]; done) | omega | (simp only [List.length_cons, List.length_nil]; omega)) only [go_sem, ↓reduceIte, Nat.reduceEqDiff, Nat.reduceAdd, Nat.reduceMul, Nat.reduceSub, Int.reduceToNat, Nat.reduceBEq, List.size_toArray, List.length_cons, List.length_nil, Bool.false_and, Bool.true_and, Bool.or_false, Bool.false_or, Bool.and_false, Bool.and_true]; rfl, rfl⟩ ?_
    clear s10 s11 s0 s1 s2 s6 s7 s20 s23 s25
    rintro i st g hi s27 ⟨⟨s0, s1, s2, s6, s7, s20, s23, s25, s10, s11⟩, s26, rfl⟩
    by_cases hlt2 : i < k
    case neg =>
      have hie : i = k := by omega
      subst hie
      simp (disch := first | (simp only [go_sem, Bool.and_self, eq_self]; done) | omega | (simp only [List.length_cons, List.length_nil]; omega)) only [go_sem, ↓reduceIte, Nat.reduceEqDiff, Nat.reduceAdd, Nat.reduceMul, Nat.reduceSub, Int.reduceToNat, Nat.reduceBEq, List.size_toArray, List.length_cons, List.length_nil, Bool.false_and, Bool.true_and, Bool.or_false, Bool.false_or, Bool.and_false, Bool.and_true, s0, s1, s2, s6, s7, s20, s23, s25, s10, s11, s26, s27, hlt2]
    have e4 : (16 : Int) ^ i * 16 = 16 ^ (i + 1) := (Int.pow_succ _ _).symm
    have b1 := B.pow16_le (i := i + 1) (n := 10) (by omega) (by omega)
    have b2 := B.pow16_pos (i + 1)
    simp (disch := first | (simp only [go_sem, Bool.and_self, eq_self]; done) | omega | (simp only [List.length_cons, List.length_nil]; omega)) only [go_sem, ↓reduceIte, Nat.reduceEqDiff, Nat.reduceAdd, Nat.reduceMul, Nat.reduceSub, Int.reduceToNat, Nat.reduceBEq, List.size_toArray, List.length_cons, List.length_nil, Bool.false_and, Bool.true_and, Bool.or_false, Bool.false_or, Bool.and_false, Bool.and_true, s0, s1, s2, s6, s7, s20, s23, s25, s10, s11, s26, s27, hlt2, e4]
    rw [ForK_normal]
    exact ⟨hlt2, by simp (disch := first | (simp only [go_sem, Bool.and_self, eq_self]; done) | omega | (simp only [List.length_cons, List.length_nil]; omega)) only [go_sem, ↓reduceIte, Nat.reduceEqDiff, Nat.reduceAdd, Nat.reduceMul, Nat.reduceSub, Int.reduceToNat, Nat.reduceBEq, List.size_toArray, List.length_cons, List.length_nil, Bool.false_and, Bool.true_and, Bool.or_false, Bool.false_or, Bool.and_false, Bool.and_true, s27], ⟨by simp [upd, Hp.put, Hp.alloc, s0], by simp [upd, Hp.put, Hp.alloc, s1], by simp [upd, Hp.put, Hp.alloc, s2], by simp [upd, Hp.put, Hp.alloc, s6], by simp [upd, Hp.put, Hp.alloc, s7], by simp [upd, Hp.put, Hp.alloc, s20], by simp [upd, Hp.put, Hp.alloc, s23], by simp [upd, Hp.put, Hp.alloc, s25], by simp (disch := first | (simp only [go_sem, Bool.and_self, eq_self]; done) | omega | (simp only [List.length_cons, List.length_nil]; omega)) only [go_sem, ↓reduceIte, Nat.reduceEqDiff, Nat.reduceAdd, Nat.reduceMul, Nat.reduceSub, Int.reduceToNat, Nat.reduceBEq, List.size_toArray, List.length_cons, List.length_nil, Bool.false_and, Bool.true_and, Bool.or_false, Bool.false_or, Bool.and_false, Bool.and_true, s10], by simp (disch := first | (simp only [go_sem, Bool.and_self, eq_self]; done) | omega | (simp only [List.length_cons, List.length_nil]; omega)) only [go_sem, ↓reduceIte, Nat.reduceEqDiff, Nat.reduceAdd, Nat.reduceMul, Nat.reduceSub, Int.reduceToNat, Nat.reduceBEq, List.size_toArray, List.length_cons, List.length_nil, Bool.false_and, Bool.true_and, Bool.or_false, Bool.false_or, Bool.and_false, Bool.and_true, s11]⟩, by simp (disch := first | (simp only [go_sem, Bool.and_self, eq_self]; done) | omega | (simp only [List.length_cons, List.length_nil]; omega)) only [go_sem, ↓reduceIte, Nat.reduceEqDiff, Nat.reduceAdd, Nat.reduceMul, Nat.reduceSub, Int.reduceToNat, Nat.reduceBEq, List.size_toArray, List.length_cons, List.length_nil, Bool.false_and, Bool.true_and, Bool.or_false, Bool.false_or, Bool.and_false, Bool.and_true], rfl⟩
  clear s10 s11 s0 s1 s2 s6 s7 s20 s23 s25
  rintro st g ⟨⟨s0, s1, s2, s6, s7, s20, s23, s25, s10, s11⟩, s26, rfl⟩
  have hDe : D = 16 ^ k := hD
  rw [← hDe] at s26
  simp (disch := first | (simp only [go_sem, Bool.and_self, eq_self]; done) | omega | (simp only [List.length_cons, List.length_nil]; omega)) only [go_sem, ↓reduceIte, Nat.reduceEqDiff, Nat.reduceAdd, Nat.reduceMul, Nat.reduceSub, Int.reduceToNat, Nat.reduceBEq, List.size_toArray, List.length_cons, List.length_nil, Bool.false_and, Bool.true_and, Bool.or_false, Bool.false_or, Bool.and_false, Bool.and_true, s0, s1, s2, s6, s7, s20, s23, s25, s10, s11, s26]
  obtain ⟨N, hN⟩ : ∃ N, N = 2 ^ k := ⟨_, rfl⟩
  have hN32 : N ≤ 32 := by rw [hN]; have := Nat.pow_le_pow_right (n := 2) (by decide) hk5; omega
  have esh := shl_one (P := Try.prog) 3 k (by omega)
  rw [← hN] at esh
  have hDle : D ≤ 1099511627776 := by rw [hDe]; exact B.pow16_le (i := k) (n := 10) (by omega) (by omega)
  have hWb : ∀ x, 0 < WO os x ∧ WO os x ≤ D := fun x => by
    have := W_bounds (l := os) (fun o ho => (hok o ho).2.2) x
    rw [hos5, ← hDe] at this
    exact this
  have hTb : ∀ x, 0 ≤ topO os 0 x ∧ topO os 0 x ≤ 1000 := fun x => by
    rw [← topN_top]
    exact ⟨topN_nn os x _, topN_le (fun o ho => by have := hok o ho; omega) x _ (Nat.le_refl _)⟩
  obtain ⟨f1, hf1⟩ : ∃ f : Nat → Int, f = fun x => WO os x * topO os 0 x := ⟨_, rfl⟩
  obtain ⟨f2, hf2⟩ : ∃ f : Nat → Int, f = fun x => WO os x * (if lt ≤ topO os 0 x then 1 else 0) := ⟨_, rfl⟩
  have f1b : ∀ x, 0 ≤ f1 x ∧ f1 x ≤ D * 1000 := fun x => by
    rw [hf1]
    have h1 := hWb x
    have h2 := hTb x
    exact ⟨Int.mul_nonneg (by omega) h2.1, Int.mul_le_mul h1.2 h2.2 h2.1 (by omega)⟩
  have f2b : ∀ x, 0 ≤ f2 x ∧ f2 x ≤ D * 1000 := fun x => by
    rw [hf2]
    have h1 := hWb x
    dsimp only
    split <;> omega
  have s1b := sum_b f1b
  have s2b := sum_b f2b
  refine WP_cut (fun st g => st 0 = LP l ∧ st 1 = LI ws ∧ st 2 = I lt ∧ st 6 = .bool false ∧ st 7 = .ptr 0 0 ∧ st 20 = .ptr B0 0 ∧ st 23 = .ptr B2 0 ∧ st 25 = I k ∧ st 26 = I D ∧ st 28 = I (sumN f1 N) ∧ st 29 = I (sumN f2 N) ∧ B2 < g.nx ∧ g.bl B0 = some (.cells false false [I (x1 / B.gcdI x1 D), I (D / B.gcdI x1 D)]) ∧ g.bl B2 = some (.cells false false [I (x2 / B.gcdI x2 D), I (D / B.gcdI x2 D)])) ?_ ?_
  · refine WP_for 30 N (fun x st h => st 0 = LP l ∧ st 1 = LI ws ∧ st 2 = I lt ∧ st 6 = .bool false ∧ st 7 = .ptr 0 0 ∧ st 20 = .ptr B0 0 ∧ st 23 = .ptr B2 0 ∧ st 25 = I k ∧ st 10 = v10 ∧ st 11 = v11 ∧ st 26 = I D ∧ st 28 = I (sumN f1 x) ∧ st 29 = I (sumN f2 x) ∧ B2 < h.nx ∧ h.bl 0 = some (.cells false false [pv, tv]) ∧ h.bl B0 = some (.cells false false [I (x1 / B.gcdI x1 D), I (D / B.gcdI x1 D)]) ∧ h.bl B2 = some (.cells false false [I (x2 / B.gcdI x2 D), I (D / B.gcdI x2 D)]) ∧ Many h [v8, v9, v10, v11, pv, tv] (cl lt os)) (by simp (disch := first | (simp only [go_sem, Bool.and_self, eq_self]; done) | omega | (simp only [List.length_cons, List.length_nil]; omega)) only [go_sem, ↓reduceIte, Nat.reduceEqDiff, Nat.reduceAdd, Nat.reduceMul, Nat.reduceSub, Int.reduceToNat, Nat.reduceBEq, List.size_toArray, List.length_cons, List.length_nil, Bool.false_and, Bool.true_and, Bool.or_false, Bool.false_or, Bool.and_false, Bool.and_true]) ⟨by simp [upd, Hp.put, Hp.alloc, s0, s1, s2, s6, s7, s20, s23, s25], by simp [upd, Hp.put, Hp.alloc, s0, s1, s2, s6, s7, s20, s23, s25], by simp [upd, Hp.put, Hp.alloc, s0, s1, s2, s6, s7, s20, s23, s25], by simp [upd, Hp.put, Hp.alloc, s0, s1, s2, s6, s7, s20, s23, s25], by simp [upd, Hp.put, Hp.alloc, s0, s1, s2, s6, s7, s20, s23, s25], by simp [upd, Hp.put, Hp.alloc, s0, s1, s2, s6, s7, s20, s23, s25], by simp [upd, Hp.put, Hp.alloc, s0, s1, s2, s6, s7, s20, s23, s25], by simp [upd, Hp.put, Hp.alloc, s0, s1, s2, s6, s7, s20, s23, s25], by simp (disch := first | (simp only [go_sem, Bool.and_self, eq_self]; done) | omega | (simp only [List.length_cons, List.length_nil]; omega)) only [go_sem, ↓reduceIte, Nat.reduceEqDiff, Nat.reduceAdd, Nat.reduceMul, Nat.reduceSub, Int.reduceToNat, Nat.reduceBEq, List.size_toArray, List.length_cons, List.length_nil, Bool.false_and, Bool.true_and, Bool.or_false, Bool.false_or, Bool.and_false, Bool.and_true, s10], by simp (disch := first | (simp only [go_sem, Bool.and_self, eq_self]; done) | omega | (simp only [List.length_cons, List.length_nil]; omega)) only [go_sem, ↓reduceIte, Nat.reduceEqDiff, Nat.reduceAdd, Nat.reduceMul, Nat.reduceSub, Int.reduceToNat, Nat.reduceBEq, List.size_toArray, List.length_cons, List.length_nil, Bool.false_and, Bool.true_and, Bool.or_false, Bool.false_or, Bool.and_false, Bool.and_true, s11], by simp (disch := first | (simp only [go_sem, Bool.and_self, eq_self]; done) | omega | (simp only [List.length_cons, List.length_nil]; omega)) only [go_sem, ↓reduceIte, Nat.reduceEqDiff, Nat.reduceAdd, Nat.reduceMul, Nat.reduceSub, Int.reduceToNat, Nat.reduceBEq, List.size_toArray, List.length_cons, List.length_nil, Bool.false_and, Bool.true_and, Bool.or_false, Bool.false_or, Bool.and_false, Bool.and_true, s26], by simp (disch := first | (simp only [go_sem, Bool.and_self, eq_self]; done) | omega | (simp only [List.length_cons, List.length_nil]; omega)) only [go_sem, ↓reduceIte, Nat.reduceEqDiff, Nat.reduceAdd, Nat.reduceMul, Nat.reduceSub, Int.reduceToNat, Nat.reduceBEq, List.size_toArray, List.length_cons, List.length_nil, Bool.false_and, Bool.true_and, Bool.or_false, Bool.false_or, Bool.and_false, Bool.and_true]; rfl, by simp (disch := first | (simp only [go_sem, Bool.and_self, eq_self]; done) | omega | (simp only [List.length_cons, List.length_nil]; omega)) only [go_sem, ↓reduceIte, Nat.reduceEqDiff, Nat.reduceAdd, Nat.reduceMul, Nat.reduceSub, Int.reduceToNat, Nat.reduceBEq, List.size_toArray, List.length_cons, List.length_nil, Bool.false_and, Bool.true_and, Bool.or_false, Bool.false_or, Bool.and_false, Bool.and_true]; rfl, hB, b0, bB, b2, m0⟩ ?_
    clear hB b0 bB b2 m0 s10 s11 s26 s0 s1 s2 s6 s7 s20 s23 s25
    rintro x st h hx s30 ⟨s0, s1, s2, s6, s7, s20, s23, s25, s10, s11, s26, s28, s29, hB, b0, bB, b2, m0⟩
    have s1x := s1b x
    have s2x := s2b x
    by_cases hxN : x < N
    case neg =>
      have hxe : x = N := by omega
      subst hxe
      simp (disch := first | (simp only [go_sem, Bool.and_self, eq_self]; done) | omega | (simp only [List.length_cons, List.length_nil]; omega)) only [go_sem, ↓reduceIte, Nat.reduceEqDiff, Nat.reduceAdd, Nat.reduceMul, Nat.reduceSub, Int.reduceToNat, Nat.reduceBEq, List.size_toArray, List.length_cons, List.length_nil, Bool.false_and, Bool.true_and, Bool.or_false, Bool.false_or, Bool.and_false, Bool.and_true, s0, s1, s2, s6, s7, s20, s23, s25, s10, s11, s26, s28, s29, s30, esh, hxN]
      exact ⟨hB, bB, b2⟩
    have hxN' : (x : Int) < N := by omega
    have hmk : ∀ g : Hp, makeB Try.prog g (some (.slice 3)) (.int .i64 (k : Int)) (.int .i64 (k : Int)) = some (.sl g.nx 0 k 1, g.alloc (.cells false true ((List.replicate k (0 : Int)).flatMap (e1 I)))) := fun g => by
      have := makeB_int (P := Try.prog) (h := g) 3 (k : Int) S.isz3 S.ibytes3 S.izero3 (by omega) (by omega)
      rwa [Int.toNat_natCast] at this
    obtain ⟨bt, hbt⟩ : ∃ f : Nat → Int, f = fun i => (((x >>> i) % 2 : Nat) : Int) := ⟨_, rfl⟩
    obtain ⟨V, hV⟩ : ∃ V, V = h.nx := ⟨_, rfl⟩
    have l2 := m0.own 2 v10 rfl
    have l3 := m0.own 3 v11 rfl
    have e2 : (nth (cl lt os) 2) = os.map fun o => I o.1 := rfl
    have e3 : (nth (cl lt os) 3) = os.map fun o => I o.2.1 := rfl
    rw [e2] at l2
    rw [e3] at l3
    obtain ⟨q10, ev10, hq10, c10⟩ := live_sl l2 (by rw [List.length_map]; omega)
    obtain ⟨q11, ev11, hq11, c11⟩ := live_sl l3 (by rw [List.length_map]; omega)
    rw [List.length_map, hos5] at ev10 ev11
    simp (disch := first | (simp only [go_sem, Bool.and_self, eq_self]; done) | omega | (simp only [List.length_cons, List.length_nil]; omega)) only [go_sem, ↓reduceIte, Nat.reduceEqDiff, Nat.reduceAdd, Nat.reduceMul, Nat.reduceSub, Int.reduceToNat, Nat.reduceBEq, List.size_toArray, List.length_cons, List.length_nil, Bool.false_and, Bool.true_and, Bool.or_false, Bool.false_or, Bool.and_false, Bool.and_true, s0, s1, s2, s6, s7, s20, s23, s25, s10, s11, s26, s28, s29, s30, esh, hxN, hxN', hmk]
    refine WP_cut (fun st g => st 0 = LP l ∧ st 1 = LI ws ∧ st 2 = I lt ∧ st 6 = .bool false ∧ st 7 = .ptr 0 0 ∧ st 20 = .ptr B0 0 ∧ st 23 = .ptr B2 0 ∧ st 25 = I k ∧ st 10 = v10 ∧ st 11 = v11 ∧ st 26 = I D ∧ st 28 = I (sumN f1 x) ∧ st 29 = I (sumN f2 x) ∧ st 30 = I x ∧ st 31 = .sl V 0 k 1 ∧ st 32 = I (topN os x k) ∧ g.nx = V + 1 ∧ g.bl V = some (.cells false true ((fillR k bt 0 k).flatMap (e1 I))) ∧ ∀ id, id < V → g.bl id = h.bl id) ?_ ?_
    · refine WP_for 33 k (fun i st g => st 0 = LP l ∧ st 1 = LI ws ∧ st 2 = I lt ∧ st 6 = .bool false ∧ st 7 = .ptr 0 0 ∧ st 20 = .ptr B0 0 ∧ st 23 = .ptr B2 0 ∧ st 25 = I k ∧ st 10 = v10 ∧ st 11 = v11 ∧ st 26 = I D ∧ st 28 = I (sumN f1 x) ∧ st 29 = I (sumN f2 x) ∧ st 30 = I x ∧ st 31 = .sl V 0 k 1 ∧ st 32 = I (topN os x i) ∧ g.nx = V + 1 ∧ g.bl V = some (.cells false true ((fillR k bt 0 i).flatMap (e1 I))) ∧ ∀ id, id < V → g.bl id = h.bl id) (by simp (disch := first | (simp only [go_sem, Bool.and_self, eq_self]; done) | omega | (simp only [List.length_cons, List.length_nil]; omega)) only [go_sem, ↓reduceIte, Nat.reduceEqDiff, Nat.reduceAdd, Nat.reduceMul, Nat.reduceSub, Int.reduceToNat, Nat.reduceBEq, List.size_toArray, List.length_cons, List.length_nil, Bool.false_and, Bool.true_and, Bool.or_false, Bool.false_or, Bool.and_false, Bool.and_true]) ⟨by simp [upd, Hp.put, Hp.alloc, s0, s1, s2, s6, s7, s20, s23, s25, s10, s11, s26, s28, s29, s30, hV], by simp [upd, Hp.put, Hp.alloc, s0, s1, s2, s6, s7, s20, s23, s25, s10, s11, s26, s28, s29, s30, hV], by simp [upd, Hp.put, Hp.alloc, s0, s1, s2, s6, s7, s20, s23, s25, s10, s11, s26, s28, s29, s30, hV], by simp [upd, Hp.put, Hp.alloc, s0, s1, s2, s6, s7, s20, s23, s25, s10, s11, s26, s28, s29, s30, hV], by simp [upd, Hp.put, Hp.alloc, s0, s1, s2, s6, s7, s20, s23, s25, s10, s11, s26, s28, s29, s30, hV], by simp [upd, Hp.put, Hp.alloc, s0, s1, s2, s6, s7, s20, s23, s25, s10, s11, s26, s28, s29, s30, hV], by simp [upd, Hp.put, Hp.alloc, s0, s1, s2, s6, s7, s20, s23, s25, s10, s11, s26, s28, s29, s30, hV], by simp [upd, Hp.put, Hp.alloc, s0, s1, s2, s6, s7, s20, s23, s25, s10, s11, s26, s28, s29, s30, hV], by simp [upd, Hp.put, Hp.alloc, s0, s1, s2, s6, s7, s20, s23, s25, s10, s11, s26, s28, s29, s30, hV], by simp [upd, Hp.put, Hp.alloc, s0, s1, s2, s6, s7, s20, s23, s25, s10, s11, s26, s28, s29, s30, hV], by simp [upd, Hp.put, Hp.alloc, s0, s1, s2, s6, s7, s20, s23, s25, s10, s11, s26, s28, s29, s30, hV], by simp [upd, Hp.put, Hp.alloc, s0, s1, s2, s6, s7, s20, s23, s25, s10, s11, s26, s28, s29, s30, hV], by simp [upd, Hp.put, Hp.alloc, s0, s1, s2, s6, s7, s20, s23, s25, s10, s11, s26, s28, s29, s30, hV], by simp [upd, Hp.put, Hp.alloc, s0, s1, s2, s6, s7, s20, s23, s25, s10, s11, s26, s28, s29, s30, hV], by simp [upd, Hp.put, Hp.alloc, s0, s1, s2, s6, s7, s20, s23, s25, s10, s11, s26, s28, s29, s30, hV], by simp (disch := first | (simp only [go_sem, Bool.and_self, eq_self]; done) | omega | (simp only [List.length_cons, List.length_nil]; omega)) only [go_sem, ↓reduceIte, Nat.reduceEqDiff, Nat.reduceAdd, Nat.reduceMul, Nat.reduceSub, Int.reduceToNat, Nat.reduceBEq, List.size_toArray, List.length_cons, List.length_nil, Bool.false_and, Bool.true_and, Bool.or_false, Bool.false_or, Bool.and_false, Bool.and_true]; rfl, by simp [upd, Hp.put, Hp.alloc, hV], by simp [upd, Hp.put, Hp.alloc, hV, fillR_zero], fun id hid => by simp [upd, Hp.put, Hp.alloc, show ¬ id = h.nx by omega]⟩ ?_
      clear s10 s11 s26 s28 s29 s30 s0 s1 s2 s6 s7 s20 s23 s25
      rintro i st g hi s33 ⟨s0, s1, s2, s6, s7, s20, s23, s25, s10, s11, s26, s28, s29, s30, s31, s32, gn, gV, gk⟩
      by_cases hik : i < k
      case neg =>
        have hie : i = k := by omega
        subst hie
        simp (disch := first | (simp only [go_sem, Bool.and_self, eq_self]; done) | omega | (simp only [List.length_cons, List.length_nil]; omega)) only [go_sem, ↓reduceIte, Nat.reduceEqDiff, Nat.reduceAdd, Nat.reduceMul, Nat.reduceSub, Int.reduceToNat, Nat.reduceBEq, List.size_toArray, List.length_cons, List.length_nil, Bool.false_and, Bool.true_and, Bool.or_false, Bool.false_or, Bool.and_false, Bool.and_true, s0, s1, s2, s6, s7, s20, s23, s25, s10, s11, s26, s28, s29, s30, s31, s32, s33, hik]
        exact ⟨gn, gV, gk⟩
      have g10 := (gk q10 (by omega)).trans c10
      have g11 := (gk q11 (by omega)).trans c11
      rw [map_I] at g10 g11
      have n10 : nth (os.map fun o => o.1) i = (nth os i).1 := nth_map_of _ _ (by omega)
      have n11 : nth (os.map fun o => o.2.1) i = (nth os i).2.1 := nth_map_of _ _ (by omega)
      have l10 : (os.map fun o => o.1).length = k := by rw [List.length_map, hos5]
      have l11 : (os.map fun o => o.2.1).length = k := by rw [List.length_map, hos5]
      have e10 : ((os.map fun o => o.1).flatMap (e1 I))[i]? = some (I (nth os i).1) := by rw [flat_get _ _ _ (by omega), n10]
      have e11 : ((os.map fun o => o.2.1).flatMap (e1 I))[i]? = some (I (nth os i).2.1) := by rw [flat_get _ _ _ (by omega), n11]
      have eV : ((fillR k bt 0 (i + 1)).flatMap (e1 I))[i]? = some (I (bt i)) := by rw [flat_get _ _ _ (by rw [fillR_len]; omega), fillR_nth hik, if_pos (by omega)]
      have lf := fillR_len k bt 0 i
      have hset : (fillR k bt 0 i).set i (bt i) = fillR k bt 0 (i + 1) := fillR_set hik
      have hsh := shr_nat (P := Try.prog) 3 x i (by omega)
      have ebt : bt i = (((x >>> i) % 2 : Nat) : Int) := by rw [hbt]
      have hrem : (((x >>> i : Nat) : Int)).tmod 2 = bt i := by
        rw [ebt, Int.tmod_eq_emod_of_nonneg (Int.natCast_nonneg _)]; omega
      have hik' : (i : Int) < k := by omega
      have hci : nth (fillR k bt 0 (i + 1)) i = bt i := by rw [fillR_nth hik, if_pos (by omega)]
      have lf1 := fillR_len k bt 0 (i + 1)
      have htop : max (topN os x i) (if (x >>> i) % 2 = 1 then (nth os i).2.1 else (nth os i).1) = topN os x (i + 1) := rfl
      have u10 : ¬ q10 = V := by omega
      have u11 : ¬ q11 = V := by omega
      have hix : ∀ a b : Int, idxV Try.prog (some (.array 2 3)) (.agg [I a, I b]) (I (bt i)) = some (I (if (x >>> i) % 2 = 1 then b else a)) := fun a b => by
        rw [ebt]; exact index_two _ _ _
      simp (disch := first | (simp only [go_sem, Bool.and_self, eq_self]; done) | omega | (simp only [List.length_cons, List.length_nil]; omega)) only [go_sem, ↓reduceIte, Nat.reduceEqDiff, Nat.reduceAdd, Nat.reduceMul, Nat.reduceSub, Int.reduceToNat, Nat.reduceBEq, List.size_toArray, List.length_cons, List.length_nil, Bool.false_and, Bool.true_and, Bool.or_false, Bool.false_or, Bool.and_false, Bool.and_true, s0, s1, s2, s6, s7, s20, s23, s25, s10, s11, s26, s28, s29, s30, s31, s32, s33, hik, hik', hsh, hrem, hix, bld29, gV, g10, g11, ev10, ev11, lf, hset, e10, e11, eV, u10, u11, htop]
      rw [ForK_normal]
      exact ⟨hik, by simp (disch := first | (simp only [go_sem, Bool.and_self, eq_self]; done) | omega | (simp only [List.length_cons, List.length_nil]; omega)) only [go_sem, ↓reduceIte, Nat.reduceEqDiff, Nat.reduceAdd, Nat.reduceMul, Nat.reduceSub, Int.reduceToNat, Nat.reduceBEq, List.size_toArray, List.length_cons, List.length_nil, Bool.false_and, Bool.true_and, Bool.or_false, Bool.false_or, Bool.and_false, Bool.and_true, s33], by simp [upd, Hp.put, Hp.alloc, s0, ev10, ev11], by simp [upd, Hp.put, Hp.alloc, s1, ev10, ev11], by simp [upd, Hp.put, Hp.alloc, s2, ev10, ev11], by simp [upd, Hp.put, Hp.alloc, s6, ev10, ev11], by simp [upd, Hp.put, Hp.alloc, s7, ev10, ev11], by simp [upd, Hp.put, Hp.alloc, s20, ev10, ev11], by simp [upd, Hp.put, Hp.alloc, s23, ev10, ev11], by simp [upd, Hp.put, Hp.alloc, s25, ev10, ev11], by simp [upd, Hp.put, Hp.alloc, s10, ev10, ev11], by simp [upd, Hp.put, Hp.alloc, s11, ev10, ev11], by simp [upd, Hp.put, Hp.alloc, s26, ev10, ev11], by simp [upd, Hp.put, Hp.alloc, s28, ev10, ev11], by simp [upd, Hp.put, Hp.alloc, s29, ev10, ev11], by simp [upd, Hp.put, Hp.alloc, s30, ev10, ev11], by simp [upd, Hp.put, Hp.alloc, s31, ev10, ev11], by simp (disch := first | (simp only [go_sem, Bool.and_self, eq_self]; done) | omega | (simp only [List.length_cons, List.length_nil]; omega)) only [go_sem, ↓reduceIte, Nat.reduceEqDiff, Nat.reduceAdd, Nat.reduceMul, Nat.reduceSub, Int.reduceToNat, Nat.reduceBEq, List.size_toArray, List.length_cons, List.length_nil, Bool.false_and, Bool.true_and, Bool.or_false, Bool.false_or, Bool.and_false, Bool.and_true], by simp [upd, Hp.put, Hp.alloc, gn], by simp [upd, Hp.put, Hp.alloc], fun id hid => by simp [upd, Hp.put, Hp.alloc, show ¬ id = V by omega]; exact gk id hid⟩
    clear s10 s11 s26 s28 s29 s30 s0 s1 s2 s6 s7 s20 s23 s25
    rintro st g ⟨s0, s1, s2, s6, s7, s20, s23, s25, s10, s11, s26, s28, s29, s30, s31, s32, gn, gV, gk⟩
    have m2 : Many g [v8, v9, v10, v11, pv, tv] (cl lt os) := m0.mono (by omega) fun i cs hi _ => gk i (by omega)
    have g0 := (gk 0 (by omega)).trans b0
    have gB := (gk B0 (by omega)).trans bB
    have gB2 := (gk B2 (by omega)).trans b2
    have hbits : fillR k bt 0 k = bitsO k x := by rw [fillR_full, hbt]; rfl
    rw [hbits] at gV
    obtain ⟨g1, z1, zn1, zk1⟩ := seal_pureL (m2.own 4 pv rfl) (by
      have : ∀ os : List Off2, AV.pureL (os.map fun _ => LI []) = true := fun os => by
        induction os with
        | nil => rfl
        | cons o os ih => simp only [List.map_cons, AV.pureL, ih, Bool.and_true]; exact pure_L _
      exact this os)
    obtain ⟨g2, z2, zn2, zk2⟩ := seal_pureL ((m2.own 5 tv rfl).mono (h' := g1) (by omega) fun i hi => zk1 i fun h => m2.dis 5 4 tv pv (by decide) rfl rfl i hi h) (by
      have : ∀ os : List Off2, AV.pureL (os.map fun o => LI [o.2.2]) = true := fun os => by
        induction os with
        | nil => rfl
        | cons o os ih => simp only [List.map_cons, AV.pureL, ih, Bool.and_true]; exact pure_L _
      exact this os)
    have hV1 : V ∉ rowIds pv := fun h => by have := live_lt (m0.own 4 pv rfl) h; omega
    have hV2 : V ∉ rowIds tv := fun h => by have := live_lt (m0.own 5 tv rfl) h; omega
    have gV2 : g2.bl V = some (.cells false true ((bitsO k x).flatMap (e1 I))) := (zk2 V hV2).trans ((zk1 V hV1).trans gV)
    obtain ⟨q4, ev4, _, _⟩ := live_sl (m2.own 4 pv rfl) (by show 0 < (os.map fun _ => LI []).length; rw [List.length_map]; omega)
    have zA : sealA g (.agg [pv, tv]) = some (.agg [LLI (netP k), LLI (netT os)], g2) := by
      have hnp : (AV.agg [pv, tv]).isPure = false := by rw [ev4]; rfl
      simp only [sealA, hnp, Bool.false_eq_true, if_false, sealCells, z1, z2, Option.bind_some, Option.map_some]
      have e4 : (nth (cl lt os) 4).map (fun c => [c]) = (netP k).map (e1 LI) := by rw [← hos5]; exact netP_cells os
      have e5 : (nth (cl lt os) 5).map (fun c => [c]) = (netT os).map (e1 LI) := netT_cells os
      rw [e4, e5]
    have oP : B.okLL (netP k) := ⟨by simp [netP, ml]; omega, fun r hr => by rw [List.eq_of_mem_replicate hr]; simp⟩
    have oT : B.okLL (netT os) := ⟨by simp [netT, ml]; omega, fun r hr => by obtain ⟨o, _, rfl⟩ := List.mem_map.1 hr; simp [ml]⟩
    have c10 := p10_con (B.f18_con (netP k) (netT os) (bitsO k x) oP oT (by simp [bitsO, ml]; omega))
    have hjo := joint_O (l := os) (by omega) (fun o ho => (hok o ho).2.2) x
    rw [hos5, ← hDe] at hjo
    rw [hjo] at c10
    have k10 := fun h h' K => ConW_num (h := h) (h' := h') (K := K) c10 rfl
    have hw := hWb x
    have ht := hTb x
    rw [topN_x os x hos5] at s32
    obtain ⟨tp, htp⟩ : ∃ t, t = topO os 0 x := ⟨_, rfl⟩
    have ef1 : f1 x = WO os x * tp := by rw [hf1, htp]
    have ef2 : f2 x = WO os x * (if lt ≤ tp then 1 else 0) := by rw [hf2, htp]
    have q1 := f1b x
    have q2 := f2b x
    rw [← htp] at s32 ht
    obtain ⟨w, hwx⟩ : ∃ w, w = WO os x := ⟨_, rfl⟩
    rw [← hwx] at hw ef1 ef2 k10
    have hDp : 0 < D := by omega
    have hg := B.gcdI_pos (a := w) hDp
    obtain ⟨p, hp⟩ : B.gcdI w D ∣ w := Int.gcd_dvd_left w D
    obtain ⟨r, hr⟩ : B.gcdI w D ∣ D := Int.gcd_dvd_right w D
    obtain ⟨gg, hgg⟩ : ∃ y, y = B.gcdI w D := ⟨_, rfl⟩
    rw [← hgg] at hp hr hg k10
    have ew : w / gg = p := by rw [hp]; exact Int.mul_ediv_cancel_left _ (by omega)
    have eD : D / gg = r := by rw [hr]; exact Int.mul_ediv_cancel_left _ (by omega)
    rw [ew, eD] at k10
    have hr1 : 1 ≤ r := by
      have : 0 < r := Int.pos_of_mul_pos_right (a := gg) (by rw [← hr]; exact hDp) hg
      omega
    have hmod : D.tmod r = 0 := by rw [hr, Int.mul_comm]; exact Int.mul_tmod_right _ _
    have hdiv : D.tdiv r = gg := by rw [hr]; exact Int.mul_tdiv_cancel _ (by omega)
    have hpg : p * gg = w := by rw [hp]; exact Int.mul_comm _ _
    have hr0 : ¬ r = 0 := by omega
    have hr2 : ¬ r < 1 := by omega
    have s1x' := s1b (x + 1)
    have s2x' := s2b (x + 1)
    have es1 : sumN f1 (x + 1) = sumN f1 x + w * tp := by rw [sumN, ef1]
    have h32 : ((x + 1 : Nat) : Int) * (D * 1000) ≤ 32 * (D * 1000) := Int.mul_le_mul_of_nonneg_right (by omega) (by omega)
    have h33 : ((x : Nat) : Int) * (D * 1000) ≤ 32 * (D * 1000) := Int.mul_le_mul_of_nonneg_right (by omega) (by omega)
    rw [ef1] at q1
    have lb : k = (bitsO k x).length := by simp [bitsO]
    have zS := sealSl_own (h := g2) (f := e1 I) V k false true (bitsO k x) lb
    simp (disch := first | (simp only [go_sem, Bool.and_self, eq_self]; done) | omega | (simp only [List.length_cons, List.length_nil]; omega)) only [go_sem, ↓reduceIte, Nat.reduceEqDiff, Nat.reduceAdd, Nat.reduceMul, Nat.reduceSub, Int.reduceToNat, Nat.reduceBEq, List.size_toArray, List.length_cons, List.length_nil, Bool.false_and, Bool.true_and, Bool.or_false, Bool.false_or, Bool.and_false, Bool.and_true, s0, s1, s2, s6, s7, s20, s23, s25, s10, s11, s26, s28, s29, s30, s31, s32, g0, zA, gV2, zS, k10, hmod, hdiv, hpg, hr0, hr2, eq_self, decide_true]
    have hgl := B.gcdI_le (a := w) hDp
    rw [← hgg] at hgl
    have wg : IntKind.i64.wrap gg = gg := wrap_ok _ (by omega) (by omega)
    have ww : IntKind.i64.wrap w = w := wrap_ok _ (by omega) (by omega)
    have wt : IntKind.i64.wrap (w * tp) = w * tp := wrap_ok _ (by omega) (by omega)
    have w1 : IntKind.i64.wrap (sumN f1 x + w * tp) = sumN f1 x + w * tp := wrap_ok _ (by omega) (by omega)
    have un : ¬ g.nx = 0 := by omega
    have un' : ¬ (0 : Nat) = g.nx := by omega
    have uB : ¬ B0 = g.nx := by omega
    have uB2 : ¬ B2 = g.nx := by omega
    by_cases hlt3 : lt ≤ tp
    · have es2 : sumN f2 (x + 1) = sumN f2 x + w := by rw [sumN, ef2, if_pos hlt3, Int.mul_one]
      have w2 : IntKind.i64.wrap (sumN f2 x + w) = sumN f2 x + w := wrap_ok _ (by omega) (by omega)
      simp (disch := first | (simp only [go_sem, Bool.and_self, eq_self]; done) | omega | (simp only [List.length_cons, List.length_nil]; omega)) only [go_sem, ↓reduceIte, Nat.reduceEqDiff, Nat.reduceAdd, Nat.reduceMul, Nat.reduceSub, Int.reduceToNat, Nat.reduceBEq, List.size_toArray, List.length_cons, List.length_nil, Bool.false_and, Bool.true_and, Bool.or_false, Bool.false_or, Bool.and_false, Bool.and_true, s0, s1, s2, s6, s7, s20, s23, s25, s10, s11, s26, s28, s29, s30, s31, s32, hlt3, decide_true, wg, hpg, ww]
      rw [ForK_normal]
      refine ⟨hxN, by simp (disch := first | (simp only [go_sem, Bool.and_self, eq_self]; done) | omega | (simp only [List.length_cons, List.length_nil]; omega)) only [go_sem, ↓reduceIte, Nat.reduceEqDiff, Nat.reduceAdd, Nat.reduceMul, Nat.reduceSub, Int.reduceToNat, Nat.reduceBEq, List.size_toArray, List.length_cons, List.length_nil, Bool.false_and, Bool.true_and, Bool.or_false, Bool.false_or, Bool.and_false, Bool.and_true, s30], by simp [upd, Hp.put, Hp.alloc, s0], by simp [upd, Hp.put, Hp.alloc, s1], by simp [upd, Hp.put, Hp.alloc, s2], by simp [upd, Hp.put, Hp.alloc, s6], by simp [upd, Hp.put, Hp.alloc, s7], by simp [upd, Hp.put, Hp.alloc, s20], by simp [upd, Hp.put, Hp.alloc, s23], by simp [upd, Hp.put, Hp.alloc, s25], by simp (disch := first | (simp only [go_sem, Bool.and_self, eq_self]; done) | omega | (simp only [List.length_cons, List.length_nil]; omega)) only [go_sem, ↓reduceIte, Nat.reduceEqDiff, Nat.reduceAdd, Nat.reduceMul, Nat.reduceSub, Int.reduceToNat, Nat.reduceBEq, List.size_toArray, List.length_cons, List.length_nil, Bool.false_and, Bool.true_and, Bool.or_false, Bool.false_or, Bool.and_false, Bool.and_true, s10], by simp (disch := first | (simp only [go_sem, Bool.and_self, eq_self]; done) | omega | (simp only [List.length_cons, List.length_nil]; omega)) only [go_sem, ↓reduceIte, Nat.reduceEqDiff, Nat.reduceAdd, Nat.reduceMul, Nat.reduceSub, Int.reduceToNat, Nat.reduceBEq, List.size_toArray, List.length_cons, List.length_nil, Bool.false_and, Bool.true_and, Bool.or_false, Bool.false_or, Bool.and_false, Bool.and_true, s11], by simp (disch := first | (simp only [go_sem, Bool.and_self, eq_self]; done) | omega | (simp only [List.length_cons, List.length_nil]; omega)) only [go_sem, ↓reduceIte, Nat.reduceEqDiff, Nat.reduceAdd, Nat.reduceMul, Nat.reduceSub, Int.reduceToNat, Nat.reduceBEq, List.size_toArray, List.length_cons, List.length_nil, Bool.false_and, Bool.true_and, Bool.or_false, Bool.false_or, Bool.and_false, Bool.and_true, s26], by simp (disch := first | (simp only [go_sem, Bool.and_self, eq_self]; done) | omega | (simp only [List.length_cons, List.length_nil]; omega)) only [go_sem, ↓reduceIte, Nat.reduceEqDiff, Nat.reduceAdd, Nat.reduceMul, Nat.reduceSub, Int.reduceToNat, Nat.reduceBEq, List.size_toArray, List.length_cons, List.length_nil, Bool.false_and, Bool.true_and, Bool.or_false, Bool.false_or, Bool.and_false, Bool.and_true, s28, es1, wg, hpg, ww, wt, w1], by simp (disch := first | (simp only [go_sem, Bool.and_self, eq_self]; done) | omega | (simp only [List.length_cons, List.length_nil]; omega)) only [go_sem, ↓reduceIte, Nat.reduceEqDiff, Nat.reduceAdd, Nat.reduceMul, Nat.reduceSub, Int.reduceToNat, Nat.reduceBEq, List.size_toArray, List.length_cons, List.length_nil, Bool.false_and, Bool.true_and, Bool.or_false, Bool.false_or, Bool.and_false, Bool.and_true, s29, es2, wg, hpg, ww, w2], by simp [upd, Hp.put, Hp.alloc]; omega, by simp [upd, Hp.put, Hp.alloc, un', g0], by simp [upd, Hp.put, Hp.alloc, uB, gB], by simp [upd, Hp.put, Hp.alloc, uB2, gB2], ?_⟩
      refine m2.mono (by simp [upd, Hp.put, Hp.alloc]) fun i cs hi _ => by simp [upd, Hp.put, Hp.alloc, show ¬ i = g.nx by omega]
    · have es2 : sumN f2 (x + 1) = sumN f2 x := by rw [sumN, ef2, if_neg hlt3, Int.mul_zero, Int.add_zero]
      simp (disch := first | (simp only [go_sem, Bool.and_self, eq_self]; done) | omega | (simp only [List.length_cons, List.length_nil]; omega)) only [go_sem, ↓reduceIte, Nat.reduceEqDiff, Nat.reduceAdd, Nat.reduceMul, Nat.reduceSub, Int.reduceToNat, Nat.reduceBEq, List.size_toArray, List.length_cons, List.length_nil, Bool.false_and, Bool.true_and, Bool.or_false, Bool.false_or, Bool.and_false, Bool.and_true, s0, s1, s2, s6, s7, s20, s23, s25, s10, s11, s26, s28, s29, s30, s31, s32, hlt3, decide_false, wg, hpg, ww]
      rw [ForK_normal]
      refine ⟨hxN, by simp (disch := first | (simp only [go_sem, Bool.and_self, eq_self]; done) | omega | (simp only [List.length_cons, List.length_nil]; omega)) only [go_sem, ↓reduceIte, Nat.reduceEqDiff, Nat.reduceAdd, Nat.reduceMul, Nat.reduceSub, Int.reduceToNat, Nat.reduceBEq, List.size_toArray, List.length_cons, List.length_nil, Bool.false_and, Bool.true_and, Bool.or_false, Bool.false_or, Bool.and_false, Bool.and_true, s30], by simp [upd, Hp.put, Hp.alloc, s0], by simp [upd, Hp.put, Hp.alloc, s1], by simp [upd, Hp.put, Hp.alloc, s2], by simp [upd, Hp.put, Hp.alloc, s6], by simp [upd, Hp.put, Hp.alloc, s7], by simp [upd, Hp.put, Hp.alloc, s20], by simp [upd, Hp.put, Hp.alloc, s23], by simp [upd, Hp.put, Hp.alloc, s25], by simp (disch := first | (simp only [go_sem, Bool.and_self, eq_self]; done) | omega | (simp only [List.length_cons, List.length_nil]; omega)) only [go_sem, ↓reduceIte, Nat.reduceEqDiff, Nat.reduceAdd, Nat.reduceMul, Nat.reduceSub, Int.reduceToNat, Nat.reduceBEq, List.size_toArray, List.length_cons, List.length_nil, Bool.false_and, Bool.true_and, Bool.or_false, Bool.false_or, Bool.and_false, Bool.and_true, s10], by simp (disch := first | (simp only [go_sem, Bool.and_self, eq_self]; done) | omega | (simp only [List.length_cons, List.length_nil]; omega)) only [go_sem, ↓reduceIte, Nat.reduceEqDiff, Nat.reduceAdd, Nat.reduceMul, Nat.reduceSub, Int.reduceToNat, Nat.reduceBEq, List.size_toArray, List.length_cons, List.length_nil, Bool.false_and, Bool.true_and, Bool.or_false, Bool.false_or, Bool.and_false, Bool.and_true, s11], by simp (disch := first | (simp only [go_sem, Bool.and_self, eq_self]; done) | omega | (simp only [List.length_cons, List.length_nil]; omega)) only [go_sem, ↓reduceIte, Nat.reduceEqDiff, Nat.reduceAdd, Nat.reduceMul, Nat.reduceSub, Int.reduceToNat, Nat.reduceBEq, List.size_toArray, List.length_cons, List.length_nil, Bool.false_and, Bool.true_and, Bool.or_false, Bool.false_or, Bool.and_false, Bool.and_true, s26], by simp (disch := first | (simp only [go_sem, Bool.and_self, eq_self]; done) | omega | (simp only [List.length_cons, List.length_nil]; omega)) only [go_sem, ↓reduceIte, Nat.reduceEqDiff, Nat.reduceAdd, Nat.reduceMul, Nat.reduceSub, Int.reduceToNat, Nat.reduceBEq, List.size_toArray, List.length_cons, List.length_nil, Bool.false_and, Bool.true_and, Bool.or_false, Bool.false_or, Bool.and_false, Bool.and_true, s28, es1, wg, hpg, ww, wt, w1], by simp (disch := first | (simp only [go_sem, Bool.and_self, eq_self]; done) | omega | (simp only [List.length_cons, List.length_nil]; omega)) only [go_sem, ↓reduceIte, Nat.reduceEqDiff, Nat.reduceAdd, Nat.reduceMul, Nat.reduceSub, Int.reduceToNat, Nat.reduceBEq, List.size_toArray, List.length_cons, List.length_nil, Bool.false_and, Bool.true_and, Bool.or_false, Bool.false_or, Bool.and_false, Bool.and_true, s29, es2], by simp [upd, Hp.put, Hp.alloc]; omega, by simp [upd, Hp.put, Hp.alloc, un', g0], by simp [upd, Hp.put, Hp.alloc, uB, gB], by simp [upd, Hp.put, Hp.alloc, uB2, gB2], ?_⟩
      refine m2.mono (by simp [upd, Hp.put, Hp.alloc]) fun i cs hi _ => by simp [upd, Hp.put, Hp.alloc, show ¬ i = g.nx by omega]
  rintro st g ⟨s0, s1, s2, s6, s7, s20, s23, s25, s26, s28, s29, hB, bB, b2⟩
  have hs1 : x1 = sumN f1 N := by rw [hx1, gI_sum, hos5, hf1, hN]
  have hs2 := reach_sum (least := lt) (l := os) hlt.1 (by omega) (fun o ho => by have := hok o ho; omega)
  rw [← hx2, hos5, ← hDe, ← hN] at hs2
  have bx1 := s1b N
  have bx2 := s2b N
  have hN33 : (N : Int) * (D * 1000) ≤ 32 * (D * 1000) := Int.mul_le_mul_of_nonneg_right (by omega) (by omega)
  have hDp : 0 < D := by rw [hD]; exact hpw
  rw [← hs1] at s28 bx1
  have k11a := fun h h' K => ConW_num (h := h) (h' := h') (K := K) (p11_con x1 D (by omega) (by omega)) rfl
  by_cases hz : lt = 0
  · rw [if_pos hz] at hs2
    have k11b := fun h h' K => ConW_num (h := h) (h' := h') (K := K) (p11_con x2 D (by omega) (by omega)) rfl
    rw [hs2] at b2 k11b
    simp (disch := first | (simp only [go_sem, Bool.and_self, eq_self]; done) | omega | (simp only [List.length_cons, List.length_nil]; omega)) only [go_sem, ↓reduceIte, Nat.reduceEqDiff, Nat.reduceAdd, Nat.reduceMul, Nat.reduceSub, Int.reduceToNat, Nat.reduceBEq, List.size_toArray, List.length_cons, List.length_nil, Bool.false_and, Bool.true_and, Bool.or_false, Bool.false_or, Bool.and_false, Bool.and_true, s0, s1, s2, s6, s7, s20, s23, s25, s26, s28, s29, hz, bB, b2, k11a, k11b, mk9, eq_self, decide_true, Bool.and_self]
  · rw [if_neg hz] at hs2
    have hs2' : x2 = sumN f2 N := by rw [hs2, hf2]
    rw [← hs2'] at s29 bx2
    have k11b := fun h h' K => ConW_num (h := h) (h' := h') (K := K) (p11_con x2 D (by omega) (by omega)) rfl
    simp (disch := first | (simp only [go_sem, Bool.and_self, eq_self]; done) | omega | (simp only [List.length_cons, List.length_nil]; omega)) only [go_sem, ↓reduceIte, Nat.reduceEqDiff, Nat.reduceAdd, Nat.reduceMul, Nat.reduceSub, Int.reduceToNat, Nat.reduceBEq, List.size_toArray, List.length_cons, List.length_nil, Bool.false_and, Bool.true_and, Bool.or_false, Bool.false_or, Bool.and_false, Bool.and_true, s0, s1, s2, s6, s7, s20, s23, s25, s26, s28, s29, hz, bB, b2, k11a, k11b, mk9, eq_self, decide_true, decide_false, Bool.and_self]
end Go.Proofs.Ytihnplomlphfjaa
