/-
  Rules for fractions.
  Families of sets of labels: two cycles have an even number of complementary pairs.
  Sums, and integer vectors: relations and solutions.
  Determinants: columns, Cramer's rule, bounds.
  Numbers: within, gcd, reduced; the reference's.
  Systems of constraints in general position: the sets of tight constraints at the corners are a cycle.
  Determinants, column by column, with the columns that are still free.
  determinant: the closure and the method.
  Two tables of positive numbers: there are corners of both sides whose labels are complementary.
  Tables; label.
  turned, negative.
  IndexFunc, ContainsFunc; what is a table, what is a game.
  dominated.
  sharesOf, mixes, fractions.
  gains, Max, isBest, gain, mixes, fractions.
  mixes, fractions, Check, Gains.
  Gains; the reference's tests.
  The reference: turned, Rows, best, Equilibrium, Gain.
  The reference's upTo, dominated, without; lists compared.
  The reference's Rest.
  DeleteFunc: one element, in place.
-/
import Derived.Test.YtcdpkgmkckfonaaL3Facts
import Derived.Test.YtcdpkgmkckfonaaAmEnd
import Derived.Test.YtcdpkgmkckfonaaAmMap
import Derived.Test.YtcdpkgmkckfonaaAmMore
import Derived.Test.YtcdpkgmkckfonaaAmFor
set_option linter.unusedVariables false
set_option linter.unusedSimpArgs false
set_option maxRecDepth 10000
namespace Go.Proofs.Ytcdpkgmkckfonaa
open Go Go.Am

variable {c : Cfg} {h h' : Hp} {K : AV → Hp → Prop} {ops : Array Oper} {lim : Option Nat} {st : St}

/-- Two numbers, as a fraction. -/
noncomputable def mk28 (x y : AV) : Option AV := buildB Try.prog (Try.prog.underlying 28) (izero Try.prog 28) [(0, x), (1, y)]
@[go_sem] theorem mk28_I (x y : Int) : mk28 (I x) (I y) = some (.agg [I x, I y]) := by kernel_rfl
noncomputable def eq28 (x y : AV) : Option AV := binA Try.prog .eql 28 x y
noncomputable def ne28 (x y : AV) : Option AV := binA Try.prog .neq 28 x y
@[go_sem] theorem eq28_I (a b c d : Int) : eq28 (.agg [I a, I b]) (.agg [I c, I d]) = some (.bool (decide (a = c) && decide (b = d))) := by
  have : eq28 (.agg [I a, I b]) (.agg [I c, I d]) = some (.bool ((a == c && (b == d && true)) == true)) := by kernel_rfl
  rw [this]; simp [Bool.beq_eq_decide_eq]
@[go_sem] theorem ne28_I (a b c d : Int) : ne28 (.agg [I a, I b]) (.agg [I c, I d]) = some (.bool (!(decide (a = c) && decide (b = d)))) := by
  have : ne28 (.agg [I a, I b]) (.agg [I c, I d]) = some (.bool ((a == c && (b == d && true)) == false)) := by kernel_rfl
  rw [this]; simp [Bool.beq_eq_decide_eq]

@[go_sem] theorem storeC_w2 (id : Nat) (row : Bool) (a b x y : AV) : storeC h id 0 2 (some (.cells false row [a, b])) [x, y] = if (x.isCell && y.isCell) = true then some (.skp, h.put id (some (.cells false row [x, y]))) else none := by
  simp [storeC, setL]
@[go_sem] theorem ev_nilmap : ev st (.const (.map none)) = .nilmp := rfl

/-! ### Results that lie in memory -/
def resC (P : Program) (h : Hp) (t : TypeId) : AV → Option AV
  | .ptr id off => loadC (P.underlying t) (isz P t) (cellsAt none h (.ptr id off))
  | _ => none
@[go_sem] theorem resC_ptr (P : Program) (t : TypeId) (id off : Nat) : resC P h t (.ptr id off) = loadC (P.underlying t) (isz P t) (cellsAt none h (.ptr id off)) := rfl
theorem resA_cell (P : Program) (a t : Nat) : resA P h st (.cell a t) = resC P h t (st a) := by
  simp only [resA]
  cases st a <;> try rfl
  rename_i id off
  simp only [resC, loadC, cellsAt, loadA_B]
  cases rd h none id <;> rfl
@[go_sem] theorem resR_ct (P : Program) (a t u : Nat) : resR P h st [.cell a t, .tmp u] = (resC P h t (st a)).bind fun v => some (.tup [v, st u]) := by
  simp only [resR, resL, resA_cell]; cases resC P h t (st a) <;> rfl
@[go_sem] theorem wrOf_int (k : IntKind) (x : Int) (ps : List Nat) : wrOf (.int k x) ps st = wrX ps st := rfl
@[go_sem] theorem wrOf_skp (ps : List Nat) : wrOf .skp ps st = wrX ps st := rfl
@[go_sem] theorem wrOf_lst (xs : List (List AV)) (ps : List Nat) : wrOf (.lst xs) ps st = wrX ps st := rfl
theorem st0_skp (i : Nat) : st0 i = .skp := rfl
/-! ### A halt ahead of a region -/
def WPy (P : Program) (cfg : Cfg) (c : Code) (st : St) (h : Hp) (Q : Exit → St → Hp → Prop) : Prop := WP P cfg c st h Q
theorem WPy_congr {P : Program} {cfg : Cfg} {c : Code} {st st' : St} {h h' : Hp} {Q : Exit → St → Hp → Prop} (e : st = st') (e2 : h = h') : WPy P cfg c st h Q = WPy P cfg c st' h' Q := by rw [e, e2]
attribute [congr] WPy_congr
theorem stopY (n : Nat) (d : Bool) {P : Program} {cfg : Cfg} {ops : Array Oper} {st : St} {h : Hp} {Q : Exit → St → Hp → Prop} : WP P cfg (.region n ops d) st h Q = WPy P cfg (.region n ops d) st h Q := rfl
theorem WPy_go {P : Program} {cfg : Cfg} {c : Code} {st : St} {h : Hp} {Q : Exit → St → Hp → Prop} (F : St → Hp → Prop) (hF : F st h) (hw : ∀ st h, F st h → WP P cfg c st h Q) : WPy P cfg c st h Q := hw st h hF
/-- A contract whose answer the walk itself finds. -/
def RetE (P : Program) (S : AV → Prop) (ow kn : Bool) (rs : List ResultVar) (ts : List TypeId) : Exit → St → Hp → Prop := fun x st h => ∃ r, S r ∧ RetK P ow kn rs ts r x st h
theorem Con_introE {P : Program} {cfg : Cfg} {S : AV → Prop} {f : FuncId} {fn : Func} {args : List AV} (hf : P.funcs[f]? = some fn) (hbody : fn.body.isSome = true) (hok : funcOk cfg fn (fn.body.getD .skip) = true) (hl : args.length ≤ fn.ntmps) (hext : cfg.ext f args = none)
    (hw : WP P cfg (fn.body.getD .skip) (initSt args) Hp.empty (RetE P S (cfg.own f) (cfg.keepNil f) fn.results.toList fn.resultTypes.toList)) : ∃ r, S r ∧ Con P cfg f args r := by
  obtain ⟨k, x, st', h', e, r, hs, hr⟩ := hw
  exact ⟨r, hs, Con_intro hf hbody hok hl hext ⟨k, x, st', h', e, hr⟩⟩
end Go.Proofs.Ytcdpkgmkckfonaa

set_option linter.unusedVariables false
set_option linter.unusedSimpArgs false
namespace Go.Proofs.Ytcdpkgmkckfonaa
open Go Go.Am

/-- Whether a label is in a set. -/
def onB (s : List Bool) (l : Nat) : Bool := (s[l]?).getD false
theorem onB_set (s : List Bool) (t l : Nat) (h : t < s.length) : onB (s.set t true) l = (onB s l || decide (l = t)) := by
  unfold onB
  rw [List.getElem?_set]
  by_cases e : t = l
  · subst e; simp [h]
  · simp [e, Ne.symm e]
/-- How many labels a set has. -/
def cardB (s : List Bool) : Nat := s.count true
theorem cardB_cons (b : Bool) (s : List Bool) : cardB (b :: s) = cardB s + (if b then 1 else 0) := by
  cases b <;> simp [cardB]
end Go.Proofs.Ytcdpkgmkckfonaa

set_option linter.unusedVariables false
set_option linter.unusedSimpArgs false
namespace Go.Proofs.Ytcdpkgmkckfonaa
open Go Go.Am

theorem sumN_le {f g : Nat → Int} : ∀ {n : Nat}, (∀ i, i < n → f i ≤ g i) → sumN f n ≤ sumN g n
  | 0, _ => by simp [sumN]
  | n + 1, h => by rw [sumN, sumN]; have := sumN_le fun i hi => h i (Nat.lt_succ_of_lt hi); have := h n (by omega); omega
theorem sumN_add (f g : Nat → Int) : ∀ n, sumN (fun i => f i + g i) n = sumN f n + sumN g n
  | 0 => rfl
  | n + 1 => by rw [sumN, sumN, sumN, sumN_add f g n]; omega
theorem sumN_mul (c : Int) (f : Nat → Int) : ∀ n, sumN (fun i => c * f i) n = c * sumN f n
  | 0 => by simp [sumN]
  | n + 1 => by rw [sumN, sumN, sumN_mul c f n, Int.mul_add]
theorem sumN_zero : ∀ n, sumN (fun _ => 0) n = 0
  | 0 => rfl
  | n + 1 => by rw [sumN, sumN_zero n]; rfl
theorem sumN_zero' {f : Nat → Int} {n : Nat} (h : ∀ i, i < n → f i = 0) : sumN f n = 0 := by
  rw [sumN_congr h]; exact sumN_zero n
theorem sumN_swap (f : Nat → Nat → Int) (m : Nat) : ∀ n, sumN (fun i => sumN (fun j => f i j) m) n = sumN (fun j => sumN (fun i => f i j) n) m
  | 0 => by simp only [sumN]; exact (sumN_zero m).symm
  | n + 1 => by simp only [sumN]; rw [sumN_swap f m n, ← sumN_add]
theorem sumN_single {f : Nat → Int} {k : Nat} : ∀ {n : Nat}, k < n → (∀ j, j < n → j ≠ k → f j = 0) → sumN f n = f k := by
  intro n
  induction n with
  | zero => intro h; omega
  | succ n ih =>
    intro hk h0
    rw [sumN]
    by_cases h : k < n
    · rw [ih h fun j hj => h0 j (by omega), h0 n (by omega) (by omega), Int.add_zero]
    · obtain rfl : n = k := by omega
      rw [sumN_zero' fun j hj => h0 j (by omega) (by omega), Int.zero_add]
/-- The number of a column once column j is gone. -/
def skp (j c : Nat) : Nat := if c < j then c else c + 1
theorem skp_ne (j c : Nat) : skp j c ≠ j := by unfold skp; split <;> omega
theorem skp_lt {j c n : Nat} (hc : c < n) : skp j c < n + 1 := by unfold skp; split <;> omega
theorem skp_inj {j a b : Nat} (h : skp j a = skp j b) : a = b := by unfold skp at h; split at h <;> split at h <;> omega
/-- Where column k is, once column j is gone. -/
def unskp (j k : Nat) : Nat := if k < j then k else k - 1
theorem skp_unskp {j k : Nat} (h : j ≠ k) : skp j (unskp j k) = k := by
  unfold skp unskp
  by_cases h1 : k < j
  · simp [h1]
  · simp only [h1, if_false]; rw [if_neg (by omega)]; omega
theorem unskp_lt {j k n : Nat} (h : j ≠ k) (hj : j < n + 1) (hk : k < n + 1) : unskp j k < n := by unfold unskp; split <;> omega
theorem sumN_skp (f : Nat → Int) {j : Nat} : ∀ {n : Nat}, j ≤ n → sumN (fun c => f (skp j c)) n + f j = sumN f (n + 1) := by
  intro n
  induction n with
  | zero => intro h; obtain rfl : j = 0 := by omega
            simp [sumN]
  | succ n ih =>
    intro h
    by_cases hj : j ≤ n
    · have e : skp j n = n + 1 := by rw [skp, if_neg (by omega)]
      have := ih hj
      rw [sumN, e]
      show _ = sumN f (n + 1) + f (n + 1)
      omega
    · obtain rfl : j = n + 1 := by omega
      have : sumN (fun c => f (skp (n + 1) c)) (n + 1) = sumN f (n + 1) := sumN_congr fun c hc => by rw [skp, if_pos hc]
      rw [this]; rfl

/-- One vector more than there are coordinates: there is a relation. -/
theorem relate : ∀ (m : Nat) (v : Nat → Nat → Int), ∃ a : Nat → Int, (∃ k, k < m + 1 ∧ a k ≠ 0) ∧ ∀ i, i < m → sumN (fun k => a k * v k i) (m + 1) = 0
  | 0, v => ⟨fun _ => 1, ⟨0, by omega, by decide⟩, fun i hi => by omega⟩
  | m + 1, v => by
    by_cases h : ∃ p, p < m + 2 ∧ v p m ≠ 0
    · obtain ⟨p, hp, hv⟩ := h
      obtain ⟨b, ⟨k, hk, hb⟩, h0⟩ := relate m fun c i => v p m * v (skp p c) i - v (skp p c) m * v p i
      have hs := fun i => sumN_skp (fun q => (if q = p then - sumN (fun c => b c * v (skp p c) m) (m + 1) else v p m * b (unskp p q)) * v q i) (j := p) (n := m + 1) (by omega)
      have hu : ∀ c, unskp p (skp p c) = c := fun c => skp_inj (skp_unskp (Ne.symm (skp_ne p c)))
      have hs' : ∀ i, sumN (fun c => v p m * b c * v (skp p c) i) (m + 1) - sumN (fun c => b c * v (skp p c) m) (m + 1) * v p i = sumN (fun q => (if q = p then - sumN (fun c => b c * v (skp p c) m) (m + 1) else v p m * b (unskp p q)) * v q i) (m + 1 + 1) := fun i => by
        rw [← hs i, if_pos rfl, sumN_congr (f := fun c => v p m * b c * v (skp p c) i) (g := fun c => (if skp p c = p then - sumN (fun c => b c * v (skp p c) m) (m + 1) else v p m * b (unskp p (skp p c))) * v (skp p c) i) fun c hc => by
          rw [if_neg (skp_ne p c), hu]]
        grind
      refine ⟨fun q => if q = p then - sumN (fun c => b c * v (skp p c) m) (m + 1) else v p m * b (unskp p q), ⟨skp p k, skp_lt hk, ?_⟩, fun i hi => ?_⟩
      · show (if skp p k = p then _ else _) ≠ (0 : Int)
        rw [if_neg (skp_ne p k), hu]; exact Int.mul_ne_zero hv hb
      · rw [← hs' i]
        by_cases him : i = m
        · subst him
          rw [sumN_congr (g := fun c => v p i * (b c * v (skp p c) i)) fun c _ => by grind, sumN_mul]
          grind
        · have h2 := h0 i (by omega)
          have h3 : sumN (fun c => b c * (v p m * v (skp p c) i - v (skp p c) m * v p i)) (m + 1) = sumN (fun c => v p m * b c * v (skp p c) i) (m + 1) + sumN (fun c => (- v p i) * (b c * v (skp p c) m)) (m + 1) := by
            rw [← sumN_add]; exact sumN_congr fun c _ => by grind
          rw [h3, sumN_mul] at h2
          grind
    · obtain ⟨b, ⟨k, hk, hb⟩, h0⟩ := relate m v
      refine ⟨fun k => if k < m + 1 then b k else 0, ⟨k, by omega, by simp [hk, hb]⟩, fun i hi => ?_⟩
      rw [sumN]
      simp only [Nat.lt_irrefl, if_false, Int.zero_mul, Int.add_zero]
      by_cases him : i = m
      · subst him
        exact sumN_zero' fun q hq => by
          have : v q i = 0 := Classical.byContradiction fun hh => h ⟨q, by omega, hh⟩
          rw [this, Int.mul_zero]
      · rw [← h0 i (by omega)]
        exact sumN_congr fun q hq => by rw [if_pos hq]
end Go.Proofs.Ytcdpkgmkckfonaa

set_option linter.unusedVariables false
set_option linter.unusedSimpArgs false
set_option maxRecDepth 10000
namespace Go.Proofs.Ytcdpkgmkckfonaa
open Go Go.Am

abbrev Mat := Nat → Nat → Int
def sg (j : Nat) : Int := if j % 2 = 0 then 1 else -1
theorem sg_succ (j : Nat) : sg (j + 1) = - sg j := by
  unfold sg
  by_cases h : j % 2 = 0
  · rw [if_pos h, if_neg (by omega)]
  · rw [if_neg h, if_pos (by omega)]; rfl
def minorM (M : Mat) (j : Nat) : Mat := fun r c => M (r + 1) (skp j c)
def det : Nat → Mat → Int
  | 0, _ => 1
  | n + 1, M => sumN (fun j => sg j * M 0 j * det n (minorM M j)) (n + 1)
theorem det_congr {n : Nat} : ∀ {M N : Mat}, (∀ r c, r < n → c < n → M r c = N r c) → det n M = det n N := by
  induction n with
  | zero => intro M N h; rfl
  | succ n ih =>
    intro M N h
    refine sumN_congr fun j hj => ?_
    show sg j * M 0 j * det n (minorM M j) = sg j * N 0 j * det n (minorM N j)
    rw [h 0 j (by omega) hj, show det n (minorM M j) = det n (minorM N j) from ih fun r c hr hc => h (r + 1) (skp j c) (by omega) (skp_lt hc)]
/-! ### Bounds -/
def absI (x : Int) : Int := x.natAbs
theorem absI_mul (x y : Int) : absI (x * y) = absI x * absI y := by simp [absI, Int.natAbs_mul]
theorem absI_nonneg (x : Int) : 0 ≤ absI x := Int.natCast_nonneg _
theorem absI_sum (f : Nat → Int) : ∀ n, absI (sumN f n) ≤ sumN (fun j => absI (f j)) n
  | 0 => by simp [sumN, absI]
  | n + 1 => by
    have := absI_sum f n
    simp only [sumN]
    unfold absI at *
    omega
theorem sumN_mono {f : Nat → Int} {m n : Nat} (h : ∀ i, 0 ≤ f i) (hmn : m ≤ n) : sumN f m ≤ sumN f n := by
  obtain ⟨d, rfl⟩ : ∃ d, n = m + d := ⟨n - m, by omega⟩
  clear hmn
  induction d with
  | zero => exact Int.le_refl _
  | succ d ih =>
    rw [← Nat.add_assoc, sumN]
    have := h (m + d)
    omega
/-- Partial sums of the expansion are bounded as well. -/
theorem det_part {n : Nat} {B : Int} (hB : 0 ≤ B) (M : Mat) (h0 : sumN (fun c => absI (M 0 c)) (n + 1) ≤ B) (hm : ∀ j, j < n + 1 → absI (det n (minorM M j)) ≤ B ^ n) :
    ∀ m, m ≤ n + 1 → absI (sumN (fun j => sg j * M 0 j * det n (minorM M j)) m) ≤ B ^ (n + 1) := by
  intro m hmn
  have hp : 0 ≤ B ^ n := Int.pow_nonneg hB
  refine Int.le_trans (absI_sum _ _) ?_
  have h1 : sumN (fun j => absI (sg j * M 0 j * det n (minorM M j))) m ≤ sumN (fun j => B ^ n * absI (M 0 j)) m := sumN_le fun j hj => by
    rw [absI_mul, absI_mul]
    have : absI (sg j) = 1 := by unfold absI sg; split <;> rfl
    rw [this, Int.one_mul, Int.mul_comm]
    exact Int.mul_le_mul_of_nonneg_right (hm j (by omega)) (absI_nonneg _)
  rw [sumN_mul] at h1
  have h2 := sumN_mono (f := fun c => absI (M 0 c)) (fun i => absI_nonneg _) hmn
  have h3 : B ^ n * sumN (fun j => absI (M 0 j)) m ≤ B ^ n * B := Int.mul_le_mul_of_nonneg_left (by omega) hp
  rw [Int.pow_succ]
  omega
theorem det_bound {n : Nat} {B : Int} (hB : 0 ≤ B) : ∀ (M : Mat), (∀ r, r < n → sumN (fun c => absI (M r c)) n ≤ B) → absI (det n M) ≤ B ^ n := by
  induction n with
  | zero => intro M h; simp [det, absI]
  | succ n ih =>
    intro M h
    refine det_part hB M (h 0 (by omega)) (fun j hj => ih _ fun r hr => ?_) (n + 1) (Nat.le_refl _)
    have := sumN_skp (fun c => absI (M (r + 1) c)) (j := j) (n := n) (by omega)
    have h1 := h (r + 1) (by omega)
    have h2 := absI_nonneg (M (r + 1) j)
    show sumN (fun c => absI (M (r + 1) (skp j c))) n ≤ B
    omega
end Go.Proofs.Ytcdpkgmkckfonaa

set_option linter.unusedVariables false
set_option linter.unusedSimpArgs false
set_option maxRecDepth 10000
namespace Go.Proofs.Ytcdpkgmkckfonaa
open Go Go.Am Go.RowKit

variable {h h' : Hp} {K : AV → Hp → Prop}

def inB (n lo hi : Int) : Bool := decide (lo ≤ n) && decide (n ≤ hi)
theorem f65_con (n lo hi : Int) : Con Try.prog cfg 65 [I n, I lo, I hi] (.bool (inB n lo hi)) := by
  by_cases hc : lo ≤ n
  · have : inB n lo hi = decide (n ≤ hi) := by simp [inB, hc]
    rw [this]
    refine Con_intro Try.func65 rfl ok65 (Nat.le_of_ble_eq_true rfl) rfl ?_
    simp only [Try.f65, Option.getD_some, initSt3]
    simp (disch := first | (simp only [go_sem, gb0, eq_self]; done) | omega | (simp only [gl1, gl2]; omega)) only [go_sem, ↓reduceIte, Nat.reduceEqDiff, Nat.reduceAdd, Nat.reduceMul, Nat.reduceSub, Int.reduceToNat, Nat.reduceBEq, hc]
  · have : inB n lo hi = false := by simp [inB, hc]
    rw [this]
    refine Con_intro Try.func65 rfl ok65 (Nat.le_of_ble_eq_true rfl) rfl ?_
    simp only [Try.f65, Option.getD_some, initSt3]
    simp (disch := first | (simp only [go_sem, gb0, eq_self]; done) | omega | (simp only [gl1, gl2]; omega)) only [go_sem, ↓reduceIte, Nat.reduceEqDiff, Nat.reduceAdd, Nat.reduceMul, Nat.reduceSub, Int.reduceToNat, Nat.reduceBEq, hc]
@[go_sem] theorem k65 (n lo hi : Int) : ConW Try.prog cfg 65 h (some ([I n, I lo, I hi], h')) K = K (.bool (inB n lo hi)) h := ConW_num (f65_con n lo hi) rfl

def gcdI (a b : Int) : Int := (Int.gcd a b : Int)
/-! ### The reference's -/
/-! ### Fractions that are equal -/
end Go.Proofs.Ytcdpkgmkckfonaa

set_option linter.unusedVariables false
set_option linter.unusedSimpArgs false
namespace Go.Proofs.Ytcdpkgmkckfonaa
open Go Go.Am

/-- The labels of a set, in their order. -/
def posB : List Bool → Nat → Nat
  | [], _ => 0
  | true :: s, 0 => 0
  | true :: s, k + 1 => posB s k + 1
  | false :: s, k => posB s k + 1
theorem posB_lt : ∀ {s : List Bool} {k : Nat}, k < cardB s → posB s k < s.length ∧ onB s (posB s k) = true
  | [], k, h => by cases h
  | true :: s, 0, h => ⟨by simp [posB], rfl⟩
  | true :: s, k + 1, h => by
    have := posB_lt (s := s) (k := k) (by rw [cardB_cons] at h; simp at h; omega)
    exact ⟨by simp only [posB, List.length_cons]; omega, this.2⟩
  | false :: s, k, h => by
    have := posB_lt (s := s) (k := k) (by rw [cardB_cons] at h; simp at h; omega)
    exact ⟨by simp only [posB, List.length_cons]; omega, this.2⟩
theorem posB_inj : ∀ {s : List Bool} {k q : Nat}, k < cardB s → q < cardB s → posB s k = posB s q → k = q
  | [], k, q, h, _, _ => by cases h
  | true :: s, 0, 0, _, _, _ => rfl
  | true :: s, 0, q + 1, _, _, h => by simp [posB] at h
  | true :: s, k + 1, 0, _, _, h => by simp [posB] at h
  | true :: s, k + 1, q + 1, h1, h2, h => by
    rw [cardB_cons] at h1 h2; simp at h1 h2
    have := posB_inj (s := s) (k := k) (q := q) (by omega) (by omega) (by simpa [posB] using h)
    omega
  | false :: s, k, q, h1, h2, h => by
    rw [cardB_cons] at h1 h2; simp at h1 h2
    exact posB_inj (s := s) (k := k) (q := q) (by omega) (by omega) (by simpa [posB] using h)
/-- Numbers at the labels of a set. -/
def spr (s : List Bool) (b : Nat → Int) (l : Nat) : Int := sumN (fun k => if posB s k = l then b k else 0) (cardB s)
theorem spr_sum (s : List Bool) (b f : Nat → Int) : sumN (fun l => spr s b l * f l) s.length = sumN (fun k => b k * f (posB s k)) (cardB s) := by
  have e : ∀ l, l < s.length → spr s b l * f l = sumN (fun k => if posB s k = l then b k * f l else 0) (cardB s) := fun l _ => by
    unfold spr
    rw [Int.mul_comm, ← sumN_mul]
    refine sumN_congr fun k hk => ?_
    split
    · rw [Int.mul_comm]
    · rw [Int.mul_zero]
  rw [sumN_congr e, sumN_swap]
  refine sumN_congr fun k hk => ?_
  rw [sumN_single (posB_lt hk).1 fun j hj hne => if_neg (Ne.symm hne), if_pos rfl]
theorem spr_at {s : List Bool} {b : Nat → Int} {k : Nat} (hk : k < cardB s) : spr s b (posB s k) = b k := by
  unfold spr
  rw [sumN_single hk fun j hj hne => if_neg fun e => hne (posB_inj hj hk e), if_pos rfl]
theorem spr_off {s : List Bool} {b : Nat → Int} {l : Nat} (h : onB s l = false) : spr s b l = 0 :=
  sumN_zero' fun k hk => if_neg fun e => by rw [← e, (posB_lt hk).2] at h; cases h

abbrev Vec := Nat → Int
def dotI (m : Nat) (c x : Vec) : Int := sumN (fun i => c i * x i) m
/-- What a constraint leaves. -/
def gap (m : Nat) (C : Nat → Vec) (r : Vec) (x : Vec) (t : Int) (l : Nat) : Int := dotI m (C l) x - t * r l
/-- A relation of the rows at the labels of a set. -/
def Rel (m : Nat) (C : Nat → Vec) (s : List Bool) (a : Vec) : Prop :=
  (∃ l, l < s.length ∧ a l ≠ 0) ∧ (∀ l, onB s l = false → a l = 0) ∧ ∀ i, i < m → sumN (fun l => a l * C l i) s.length = 0
def Indep (m : Nat) (C : Nat → Vec) (s : List Bool) : Prop := ∀ a, ¬ Rel m C s a
section
variable {m : Nat} {C : Nat → Vec} {s : List Bool}
theorem Indep.rows (h : Indep m C s) (hc : cardB s = m) : ∀ a : Vec, (∀ i, i < m → sumN (fun k => a k * C (posB s k) i) m = 0) → ∀ k, k < m → a k = 0 := by
  intro a ha k hk
  refine Classical.byContradiction fun hn => h (spr s a) ⟨⟨posB s k, (posB_lt (by omega)).1, by rw [spr_at (by omega)]; exact hn⟩, fun l hl => spr_off hl, fun i hi => ?_⟩
  rw [spr_sum, hc]; exact ha i hi
/-- A vector orthogonal to all of them is zero. -/
theorem Indep.inj (h : Indep m C s) (hc : cardB s = m) {x : Vec} (hx : ∀ l, onB s l = true → dotI m (C l) x = 0) : ∀ i, i < m → x i = 0 := by
  intro k0 hk
  refine Classical.byContradiction fun ha => ?_
  match m, h, hc, hx, hk with
  | m + 1, h, hc, hx, hk =>
    obtain ⟨c, ⟨k1, hk1, hcn⟩, hz⟩ := relate m fun k i => C (posB s k) (skp k0 i)
    refine hcn (h.rows hc c (fun i hi' => ?_) k1 hk1)
    by_cases hik : i = k0
    · subst hik
      have e : sumN (fun k => c k * (sumN (fun q => C (posB s k) q * x q) (m + 1))) (m + 1) = 0 := sumN_zero' fun k hk => by
        have := hx (posB s k) (posB_lt (by omega)).2
        unfold dotI at this
        rw [this, Int.mul_zero]
      have e2 : ∀ k, k < m + 1 → c k * sumN (fun q => C (posB s k) q * x q) (m + 1) = sumN (fun q => c k * (C (posB s k) (skp i q) * x (skp i q))) m + x i * (c k * C (posB s k) i) := fun k _ => by
        rw [← sumN_skp (fun q => C (posB s k) q * x q) (j := i) (by omega), Int.mul_add, ← sumN_mul]; grind
      rw [sumN_congr e2, sumN_add, sumN_swap, sumN_mul] at e
      have e3 : sumN (fun q => sumN (fun k => c k * (C (posB s k) (skp i q) * x (skp i q))) (m + 1)) m = 0 := sumN_zero' fun q hq => by
        rw [sumN_congr (g := fun k => x (skp i q) * (c k * C (posB s k) (skp i q))) fun k _ => by grind, sumN_mul, hz q hq, Int.mul_zero]
      rw [e3, Int.zero_add] at e
      rcases Int.mul_eq_zero.1 e with h | h
      · exact absurd h ha
      · exact h
    · have := hz (unskp k0 i) (unskp_lt (Ne.symm hik) (by omega) hi')
      rw [skp_unskp (Ne.symm hik)] at this
      exact this
end
/-- A system of N constraints on m numbers, in general position. -/
structure Sys (m N : Nat) (C : Nat → Vec) (r : Vec) : Prop where
  lt : m < N
  ray : ∀ (d : Vec) (s : List Bool), s.length = N → cardB s = m → (∀ l, l < N → 0 ≤ dotI m (C l) d) → (∀ l, l < N → onB s l = true → dotI m (C l) d = 0) → ∀ l, l < N → dotI m (C l) d = 0
  gen : ∀ s : List Bool, s.length = N → (∃ a, Rel m C s a) → ∃ a, Rel m C s a ∧ sumN (fun l => a l * r l) N ≠ 0
/-- The constraints of s are tight at a point, and no others. -/
def Corner (N m : Nat) (C : Nat → Vec) (r : Vec) (s : List Bool) (x : Vec) (t : Int) : Prop :=
  ∀ l, l < N → if onB s l then gap m C r x t l = 0 else 0 < gap m C r x t l
section
variable {m N : Nat} {C : Nat → Vec} {r : Vec}
theorem Corner.on {s : List Bool} {x : Vec} {t : Int} (h : Corner N m C r s x t) {l : Nat} (hl : l < N) (ho : onB s l = true) : gap m C r x t l = 0 := by
  have := h l hl; rw [ho, if_pos rfl] at this; exact this
theorem Corner.off {s : List Bool} {x : Vec} {t : Int} (h : Corner N m C r s x t) {l : Nat} (hl : l < N) (ho : onB s l = false) : 0 < gap m C r x t l := by
  have := h l hl; rw [ho] at this; exact this
theorem Corner.nn {s : List Bool} {x : Vec} {t : Int} (h : Corner N m C r s x t) {l : Nat} (hl : l < N) : 0 ≤ gap m C r x t l := by
  cases ho : onB s l with
  | true => rw [h.on hl ho]; exact Int.le_refl _
  | false => exact Int.le_of_lt (h.off hl ho)
end
end Go.Proofs.Ytcdpkgmkckfonaa

set_option linter.unusedVariables false
set_option linter.unusedSimpArgs false
namespace Go.Proofs.Ytcdpkgmkckfonaa
open Go Go.Am

theorem posB_take : ∀ {s : List Bool} {c : Nat}, onB s c = true → posB s (cardB (s.take c)) = c
  | [], c, h => by simp [onB] at h
  | true :: s, 0, h => rfl
  | true :: s, c + 1, h => by
    rw [List.take_succ_cons, cardB_cons]
    show posB s (cardB (s.take c)) + 1 = c + 1
    rw [posB_take (s := s) (c := c) h]
  | false :: s, 0, h => by cases h
  | false :: s, c + 1, h => by
    rw [List.take_succ_cons, cardB_cons]
    show posB s (cardB (s.take c)) + 1 = c + 1
    rw [posB_take (s := s) (c := c) h]
theorem posB_skp : ∀ (s : List Bool) (j c : Nat), posB (s.set (posB s j) false) c = posB s (skp j c)
  | [], j, c => rfl
  | true :: s, 0, c => rfl
  | true :: s, j + 1, 0 => rfl
  | true :: s, j + 1, c + 1 => by
    show posB (s.set (posB s j) false) c + 1 = posB (true :: s) (skp (j + 1) (c + 1))
    have : skp (j + 1) (c + 1) = skp j c + 1 := by unfold skp; split <;> split <;> omega
    rw [this, posB_skp s j c]; rfl
  | false :: s, j, c => by
    show posB (s.set (posB s j) false) c + 1 = posB s (skp j c) + 1
    rw [posB_skp s j c]
theorem cardB_unset : ∀ {s : List Bool} {c : Nat}, onB s c = true → cardB (s.set c false) + 1 = cardB s
  | [], c, h => by simp [onB] at h
  | b :: s, 0, h => by
    have : b = true := h
    subst this; simp [cardB]
  | b :: s, c + 1, h => by
    have := cardB_unset (s := s) (c := c) h
    simp only [List.set_cons_succ, cardB_cons]; omega
theorem take_on {s : List Bool} {c : Nat} (h : c < s.length) : cardB (s.take (c + 1)) = cardB (s.take c) + (if onB s c then 1 else 0) := by
  rw [List.take_add_one, cardB, List.count_append]
  have e : onB s c = s[c] := by simp [onB, h]
  rw [e, List.getElem?_eq_getElem h]
  cases s[c] <;> simp [cardB]
/-- The determinant from a row on, of the columns that are free. -/
def detF (M : Mat) (row : Nat) (s : List Bool) : Int := det (cardB s) fun r c => M (row + r) (posB s c)
def termF (M : Mat) (row : Nat) (s : List Bool) (j : Nat) : Int := sg j * M row (posB s j) * detF M (row + 1) (s.set (posB s j) false)
/-- What the first columns give. -/
def prtF (M : Mat) (row : Nat) (s : List Bool) (c : Nat) : Int := sumN (termF M row s) (cardB (s.take c))
theorem minor_F {M : Mat} {row m : Nat} {s : List Bool} (hc : cardB s = m + 1) {j : Nat} (hj : j < m + 1) : detF M (row + 1) (s.set (posB s j) false) = det m (minorM (fun r c => M (row + r) (posB s c)) j) := by
  have h1 := cardB_unset (posB_lt (s := s) (k := j) (by omega)).2
  unfold detF
  rw [show cardB (s.set (posB s j) false) = m by omega]
  refine det_congr fun r c hr hc => ?_
  show M (row + 1 + r) (posB (s.set (posB s j) false) c) = M (row + (r + 1)) (posB s (skp j c))
  rw [posB_skp, show row + 1 + r = row + (r + 1) by omega]
theorem prtF_full {M : Mat} {row m : Nat} {s : List Bool} (hc : cardB s = m + 1) : prtF M row s s.length = detF M row s := by
  unfold prtF
  rw [List.take_of_length_le (Nat.le_refl _), hc]
  unfold detF
  rw [hc]
  refine sumN_congr fun j hj => ?_
  show termF M row s j = sg j * M (row + 0) (posB s j) * det m (minorM (fun r c => M (row + r) (posB s c)) j)
  rw [termF, minor_F hc hj]; rfl
theorem prtF_on {M : Mat} {row : Nat} {s : List Bool} {c : Nat} (h : c < s.length) (ho : onB s c = true) : prtF M row s (c + 1) = prtF M row s c + sg (cardB (s.take c)) * M row c * detF M (row + 1) (s.set c false) := by
  unfold prtF
  rw [take_on h, ho, if_pos rfl, sumN, termF, posB_take ho]
theorem prtF_off {M : Mat} {row : Nat} {s : List Bool} {c : Nat} (h : c < s.length) (ho : onB s c = false) : prtF M row s (c + 1) = prtF M row s c := by
  unfold prtF
  rw [take_on h, ho]; rfl
/-- Numbers up to 41, at most four of them in a row. -/
theorem rowF_sum {M : Mat} (hM : ∀ r c, absI (M r c) ≤ 41) {m : Nat} (hm : m ≤ 4) (row : Nat) (s : List Bool) (r : Nat) : sumN (fun c => absI ((fun r c => M (row + r) (posB s c) : Mat) r c)) m ≤ 164 := by
  have h1 := sumN_bounds (f := fun c => absI (M (row + r) (posB s c))) (lo := 0) (hi := 41) (n := m) fun i hi => ⟨absI_nonneg _, hM _ _⟩
  have : sumN (fun c => absI (M (row + r) (posB s c))) m ≤ 41 * m := h1.2
  show sumN (fun c => absI (M (row + r) (posB s c))) m ≤ 164
  omega
theorem pow164 {n : Nat} (h : n ≤ 4) : (164 : Int) ^ n ≤ 723394816 := by
  match n, h with
  | 0, _ => decide
  | 1, _ => decide
  | 2, _ => decide
  | 3, _ => decide
  | 4, _ => decide
theorem detF_bound {M : Mat} (hM : ∀ r c, absI (M r c) ≤ 41) (row : Nat) {s : List Bool} (hs : cardB s ≤ 4) : absI (detF M row s) ≤ 723394816 :=
  Int.le_trans (det_bound (B := 164) (by decide) _ fun r hr => rowF_sum hM hs row s r) (pow164 hs)
theorem prtF_bound {M : Mat} (hM : ∀ r c, absI (M r c) ≤ 41) (row : Nat) {s : List Bool} (hs : cardB s ≤ 4) {c : Nat} : absI (prtF M row s c) ≤ 723394816 := by
  unfold prtF
  have hle : cardB (s.take c) ≤ cardB s := List.Sublist.count_le _ (List.take_sublist c s)
  cases hm : cardB s with
  | zero => rw [hm] at hle; rw [show cardB (s.take c) = 0 by omega]; simp [sumN, absI]
  | succ m =>
    obtain ⟨A, hA⟩ : ∃ A : Mat, A = fun r c => M (row + r) (posB s c) := ⟨_, rfl⟩
    have hrow : ∀ r, sumN (fun c => absI (A r c)) (m + 1) ≤ 164 := fun r => by rw [hA]; exact rowF_sum hM (by omega) row s r
    have e : sumN (termF M row s) (cardB (s.take c)) = sumN (fun j => sg j * A 0 j * det m (minorM A j)) (cardB (s.take c)) := sumN_congr fun j hj => by
      rw [termF, minor_F hm (by omega), hA]; rfl
    rw [e]
    have hmin : ∀ j, j < m + 1 → absI (det m (minorM A j)) ≤ 164 ^ m := fun j hj => det_bound (by decide) _ fun r hr => by
      have h1 := hrow (r + 1)
      have h2 := sumN_skp (fun c => absI (A (r + 1) c)) (j := j) (n := m) (by omega)
      have h3 := absI_nonneg (A (r + 1) j)
      show sumN (fun c => absI (A (r + 1) (skp j c))) m ≤ 164
      omega
    exact Int.le_trans (det_part (n := m) (B := 164) (by decide) A (hrow 0) hmin (cardB (s.take c)) (by omega)) (pow164 (by omega))
theorem detF_full (M : Mat) (n : Nat) : detF M 0 (List.replicate n true) = det n M := by
  unfold detF
  have hc : cardB (List.replicate n true) = n := by simp [cardB]
  rw [hc]
  have hp : ∀ n c, c < n → posB (List.replicate n true) c = c := by
    intro n
    induction n with
    | zero => intro c h; omega
    | succ n ih =>
      intro c h
      cases c with
      | zero => rfl
      | succ c => show posB (List.replicate n true) c + 1 = c + 1; rw [ih c (by omega)]
  refine det_congr fun r c hr hc => ?_
  rw [Nat.zero_add, hp n c hc]
theorem absI_le {x : Int} {b : Int} : absI x ≤ b ↔ -b ≤ x ∧ x ≤ b := by unfold absI; omega
end Go.Proofs.Ytcdpkgmkckfonaa

set_option linter.unusedVariables false
set_option linter.unusedSimpArgs false
set_option maxRecDepth 10000
namespace Go.Proofs.Ytcdpkgmkckfonaa
open Go Go.Am

variable {h h' : Hp} {K : AV → Hp → Prop}

@[go_sem] theorem keepW_rf (l : Nat → Bool) (h : Hp) (A : Prop) : keepW true l h h A = A := keepW_t (fun _ _ => rfl) A

/-- Four rows of five numbers. -/
def matA (X : Mat) : List AV := (List.range 20).map fun k => I (X (k / 5) (k % 5))
def setM (X : Mat) (i j : Nat) (v : Int) : Mat := fun r c => if r = i ∧ c = j then v else X r c
theorem matA_len (X : Mat) : (matA X).length = 20 := by simp [matA]
@[go_sem] theorem matA_get (X : Mat) (i j : Nat) (hi : i < 4) (hj : j < 5) : (matA X)[i * 5 + j]? = some (I (X i j)) := by
  have h1 : (i * 5 + j) / 5 = i := by omega
  have h2 : (i * 5 + j) % 5 = j := by omega
  rw [matA, List.getElem?_map, List.getElem?_range (by omega)]
  simp [h1, h2]
theorem matA_set (X : Mat) (i j : Nat) (v : Int) (hi : i < 4) (hj : j < 5) : (matA X).set (i * 5 + j) (I v) = matA (setM X i j v) := by
  refine List.ext_getElem? fun k => ?_
  rw [List.getElem?_set]
  by_cases hk : k < 20
  · by_cases e : i * 5 + j = k
    · subst e
      rw [if_pos rfl, if_pos (by rw [matA_len]; omega), matA_get _ _ _ hi hj]
      simp [setM]
    · rw [if_neg e]
      have h1 : k = k / 5 * 5 + k % 5 := by omega
      have h2 : ¬ (k / 5 = i ∧ k % 5 = j) := by omega
      rw [h1, matA_get _ _ _ (by omega) (by omega), matA_get _ _ _ (by omega) (by omega)]
      simp [setM, h2]
  · by_cases e : i * 5 + j = k
    · omega
    · rw [if_neg e, List.getElem?_eq_none (by rw [matA_len]; omega), List.getElem?_eq_none (by rw [matA_len]; omega)]
@[go_sem] theorem matA_store (X : Mat) (id i j : Nat) (v : Int) (hi : i < 4) (hj : j < 5) : storeC h id (i * 5 + j) 1 (some (.cells false false (matA X))) [.int .i64 v] = some (.skp, h.put id (some (.cells false false (matA (setM X i j v))))) := by
  rw [storeC_one id _ false _ (I v) rfl (by rw [matA_len]; omega), matA_set _ _ _ _ hi hj]
theorem matA_congr {X Y : Mat} (h : ∀ r c, r < 4 → c < 5 → X r c = Y r c) : matA X = matA Y := by
  refine List.map_congr_left fun k hk => ?_
  have hk := List.mem_range.1 hk
  rw [h _ _ (by omega) (by omega)]
theorem matA_cell (X : Mat) : (matA X).all AV.isCell = true := List.all_eq_true.2 fun x hx => by
  obtain ⟨k, _, rfl⟩ := List.mem_map.1 hx; rfl
theorem matA_pure (X : Mat) : AV.pureL (matA X) = true := pureL_all fun x hx => by
  obtain ⟨k, _, rfl⟩ := List.mem_map.1 hx; rfl
theorem put_same {id : Nat} {b : Option Blk} (hb : h.bl id = b) : h.put id b = h := by
  cases h
  simp only [Hp.put, Hp.mk.injEq, true_and]
  funext k
  split
  · rename_i e; rw [e]; exact hb.symm
  · rfl
theorem list_ext_on' {s t : List Bool} (hl : s.length = t.length) (h : ∀ l, l < s.length → onB s l = onB t l) : s = t := by
  refine List.ext_getElem hl fun i h1 h2 => ?_
  have := h i h1
  simpa [onB, List.getElem?_eq_getElem h1, List.getElem?_eq_getElem h2] using this
theorem put_put (id : Nat) (b c : Option Blk) : (h.put id b).put id c = h.put id c := by
  simp only [Hp.put, Hp.mk.injEq, true_and]
  funext k
  split <;> rfl
/-- What is in use: all but the free columns. -/
def useL (s : List Bool) : List Bool := s.map not ++ List.replicate (4 - s.length) false
theorem useL_len {s : List Bool} (h : s.length ≤ 4) : (useL s).length = 4 := by simp [useL]; omega
theorem useL_nth {s : List Bool} {c : Nat} (hc : c < s.length) : nth (useL s) c = !onB s c := by
  rw [useL, nth, List.getElem?_append_left (by simpa using hc), List.getElem?_map, onB, List.getElem?_eq_getElem hc]; rfl
theorem useL_set {s : List Bool} {c : Nat} (hc : c < s.length) (b : Bool) : (useL s).set c (!b) = useL (s.set c b) := by
  rw [useL, useL, List.set_append_left _ _ (by simpa using hc), List.length_set, List.map_set]
/-- The matrix with the right side in one column. -/
def repM (X : Mat) (rep : Int) : Mat := fun r c => X r (if (c : Int) = rep then 4 else c)

set_option maxHeartbeats 4000000 in
theorem f85_shr {n N U R M S : Nat} {X : Mat} {rep : Int} (hn : n ≤ 4) (hX : ∀ r c, absI (X r c) ≤ 41) (d1 : N ≠ U) (d2 : R ≠ U) (d3 : M ≠ U) (d4 : S ≠ U) :
    ∀ (m row : Nat) (s : List Bool) (h : Hp), s.length = n → cardB s = m → row + m = n → N < h.nx → R < h.nx → M < h.nx → S < h.nx →
      h.bl N = some (.cells false false [I n]) → h.bl U = some (.cells false false ((useL s).flatMap (e1 AV.bool))) → h.bl R = some (.cells false false [I rep]) → h.bl M = some (.cells false false (matA X)) →
      h.bl S = some (.cells false false [.fn 85 [.ptr N 0, .ptr U 0, .ptr R 0, .ptr M 0, .ptr S 0]]) →
      Shr Try.prog cfg 85 [I row, .ptr N 0, .ptr U 0, .ptr R 0, .ptr M 0, .ptr S 0] h (I (detF (repM X rep) row s)) h := by
  intro m
  induction m with
  | zero =>
    intro row s h hl hc hrow lN lR lM lS bN bU bR bM bS
    have hr : row = n := by omega
    have hd : detF (repM X rep) row s = 1 := by unfold detF; rw [hc]; rfl
    rw [hd]
    suffices hh : ∃ v h', Shr Try.prog cfg 85 [I row, .ptr N 0, .ptr U 0, .ptr R 0, .ptr M 0, .ptr S 0] h v h' ∧ (v = I 1 ∧ h' = h) by
      obtain ⟨v, h', hs, rfl, rfl⟩ := hh
      exact hs
    refine Shr_intro Try.func85 rfl ok85 (Nat.le_of_ble_eq_true rfl) ?_
    simp only [Try.f85, Option.getD_some, initSt6]
    simp (disch := first | (simp only [go_sem, gb0, eq_self]; done) | omega | (simp only [gl1, gl2]; omega)) only [go_sem, ↓reduceIte, Nat.reduceEqDiff, Nat.reduceAdd, Nat.reduceMul, Nat.reduceSub, Int.reduceToNat, Nat.reduceBEq, bN, hr]
  | succ m ih =>
    intro row s h hl hc hrow lN lR lM lS bN bU bR bM bS
    suffices hh : ∃ v h', Shr Try.prog cfg 85 [I row, .ptr N 0, .ptr U 0, .ptr R 0, .ptr M 0, .ptr S 0] h v h' ∧ (v = I (detF (repM X rep) row s) ∧ h' = h) by
      obtain ⟨v, h', hs, rfl, rfl⟩ := hh
      exact hs
    have hne : ¬ (row : Int) = n := by omega
    have hR : ∀ r c, absI (repM X rep r c) ≤ 41 := fun r c => hX _ _
    have hrow4 : row < 4 := by omega
    have hrow4' : (row : Int) < 4 := by omega
    refine Shr_intro Try.func85 rfl ok85 (Nat.le_of_ble_eq_true rfl) ?_
    simp only [Try.f85, Option.getD_some, initSt6]
    simp (disch := first | (simp only [go_sem, gb0, eq_self]; done) | omega | (simp only [gl1, gl2]; omega)) only [go_sem, ↓reduceIte, Nat.reduceEqDiff, Nat.reduceAdd, Nat.reduceMul, Nat.reduceSub, Int.reduceToNat, Nat.reduceBEq, bN, hne]
    refine WP_for 16 n (fun c st h' => st 0 = I row ∧ st 1 = .ptr N 0 ∧ st 2 = .ptr U 0 ∧ st 3 = .ptr R 0 ∧ st 4 = .ptr M 0 ∧ st 5 = .ptr S 0 ∧ st 15 = I n ∧ st 8 = I (prtF (repM X rep) row s c) ∧ st 9 = I (sg (cardB (s.take c))) ∧ h' = h) (by simp (disch := first | (simp only [go_sem, gb0, eq_self]; done) | omega | (simp only [gl1, gl2]; omega)) only [go_sem, ↓reduceIte, Nat.reduceEqDiff, Nat.reduceAdd, Nat.reduceMul, Nat.reduceSub, Int.reduceToNat, Nat.reduceBEq]) ⟨by simp (disch := first | (simp only [go_sem, gb0, eq_self]; done) | omega | (simp only [gl1, gl2]; omega)) only [go_sem, ↓reduceIte, Nat.reduceEqDiff, Nat.reduceAdd, Nat.reduceMul, Nat.reduceSub, Int.reduceToNat, Nat.reduceBEq], by simp (disch := first | (simp only [go_sem, gb0, eq_self]; done) | omega | (simp only [gl1, gl2]; omega)) only [go_sem, ↓reduceIte, Nat.reduceEqDiff, Nat.reduceAdd, Nat.reduceMul, Nat.reduceSub, Int.reduceToNat, Nat.reduceBEq], by simp (disch := first | (simp only [go_sem, gb0, eq_self]; done) | omega | (simp only [gl1, gl2]; omega)) only [go_sem, ↓reduceIte, Nat.reduceEqDiff, Nat.reduceAdd, Nat.reduceMul, Nat.reduceSub, Int.reduceToNat, Nat.reduceBEq], by simp (disch := first | (simp only [go_sem, gb0, eq_self]; done) | omega | (simp only [gl1, gl2]; omega)) only [go_sem, ↓reduceIte, Nat.reduceEqDiff, Nat.reduceAdd, Nat.reduceMul, Nat.reduceSub, Int.reduceToNat, Nat.reduceBEq], by simp (disch := first | (simp only [go_sem, gb0, eq_self]; done) | omega | (simp only [gl1, gl2]; omega)) only [go_sem, ↓reduceIte, Nat.reduceEqDiff, Nat.reduceAdd, Nat.reduceMul, Nat.reduceSub, Int.reduceToNat, Nat.reduceBEq], by simp (disch := first | (simp only [go_sem, gb0, eq_self]; done) | omega | (simp only [gl1, gl2]; omega)) only [go_sem, ↓reduceIte, Nat.reduceEqDiff, Nat.reduceAdd, Nat.reduceMul, Nat.reduceSub, Int.reduceToNat, Nat.reduceBEq], by simp (disch := first | (simp only [go_sem, gb0, eq_self]; done) | omega | (simp only [gl1, gl2]; omega)) only [go_sem, ↓reduceIte, Nat.reduceEqDiff, Nat.reduceAdd, Nat.reduceMul, Nat.reduceSub, Int.reduceToNat, Nat.reduceBEq], by simp (disch := first | (simp only [go_sem, gb0, eq_self]; done) | omega | (simp only [gl1, gl2]; omega)) only [go_sem, ↓reduceIte, Nat.reduceEqDiff, Nat.reduceAdd, Nat.reduceMul, Nat.reduceSub, Int.reduceToNat, Nat.reduceBEq]; rfl, by simp (disch := first | (simp only [go_sem, gb0, eq_self]; done) | omega | (simp only [gl1, gl2]; omega)) only [go_sem, ↓reduceIte, Nat.reduceEqDiff, Nat.reduceAdd, Nat.reduceMul, Nat.reduceSub, Int.reduceToNat, Nat.reduceBEq]; rfl, rfl⟩ ?_
    rintro c st h' hcn s16 ⟨s0, s1, s2, s3, s4, s5, s15, s8, s9, rfl⟩
    by_cases hlt : c < n
    case neg =>
      have hce : c = n := by omega
      subst hce
      have := prtF_full (M := repM X rep) (row := row) (s := s) hc
      rw [hl] at this
      simp (disch := first | (simp only [go_sem, gb0, eq_self]; done) | omega | (simp only [gl1, gl2]; omega)) only [go_sem, ↓reduceIte, Nat.reduceEqDiff, Nat.reduceAdd, Nat.reduceMul, Nat.reduceSub, Int.reduceToNat, Nat.reduceBEq, s0, s1, s2, s3, s4, s5, s15, s8, s9, s16, hlt, this]
    have hlt' : (c : Int) < n := by omega
    have hc4 : c < 4 := by omega
    have hc4' : (c : Int) < 4 := by omega
    have uU := useL_nth (s := s) (c := c) (by omega)
    have lU := useL_len (s := s) (by omega)
    have eU : ((useL s).flatMap (e1 AV.bool))[c]? = some (.bool (!onB s c)) := by rw [flat_get _ _ _ (by omega), uU]
    cases ho : onB s c with
    | false =>
      rw [ho] at eU
      have q1 : cardB (s.take (c + 1)) = cardB (s.take c) := by rw [take_on (by omega), ho]; rfl
      have q2 := prtF_off (M := repM X rep) (row := row) (s := s) (c := c) (by omega) ho
      simp (disch := first | (simp only [go_sem, gb0, eq_self]; done) | omega | (simp only [gl1, gl2]; omega)) only [go_sem, ↓reduceIte, Nat.reduceEqDiff, Nat.reduceAdd, Nat.reduceMul, Nat.reduceSub, Int.reduceToNat, Nat.reduceBEq, s0, s1, s2, s3, s4, s5, s15, s8, s9, s16, hlt, hlt', hc4, hc4', bU, eU]
      rw [ForK_normal]
      exact ⟨hlt, by simp (disch := first | (simp only [go_sem, gb0, eq_self]; done) | omega | (simp only [gl1, gl2]; omega)) only [go_sem, ↓reduceIte, Nat.reduceEqDiff, Nat.reduceAdd, Nat.reduceMul, Nat.reduceSub, Int.reduceToNat, Nat.reduceBEq, s16], by simp (disch := first | (simp only [go_sem, gb0, eq_self]; done) | omega | (simp only [gl1, gl2]; omega)) only [go_sem, ↓reduceIte, Nat.reduceEqDiff, Nat.reduceAdd, Nat.reduceMul, Nat.reduceSub, Int.reduceToNat, Nat.reduceBEq, s0], by simp (disch := first | (simp only [go_sem, gb0, eq_self]; done) | omega | (simp only [gl1, gl2]; omega)) only [go_sem, ↓reduceIte, Nat.reduceEqDiff, Nat.reduceAdd, Nat.reduceMul, Nat.reduceSub, Int.reduceToNat, Nat.reduceBEq, s1], by simp (disch := first | (simp only [go_sem, gb0, eq_self]; done) | omega | (simp only [gl1, gl2]; omega)) only [go_sem, ↓reduceIte, Nat.reduceEqDiff, Nat.reduceAdd, Nat.reduceMul, Nat.reduceSub, Int.reduceToNat, Nat.reduceBEq, s2], by simp (disch := first | (simp only [go_sem, gb0, eq_self]; done) | omega | (simp only [gl1, gl2]; omega)) only [go_sem, ↓reduceIte, Nat.reduceEqDiff, Nat.reduceAdd, Nat.reduceMul, Nat.reduceSub, Int.reduceToNat, Nat.reduceBEq, s3], by simp (disch := first | (simp only [go_sem, gb0, eq_self]; done) | omega | (simp only [gl1, gl2]; omega)) only [go_sem, ↓reduceIte, Nat.reduceEqDiff, Nat.reduceAdd, Nat.reduceMul, Nat.reduceSub, Int.reduceToNat, Nat.reduceBEq, s4], by simp (disch := first | (simp only [go_sem, gb0, eq_self]; done) | omega | (simp only [gl1, gl2]; omega)) only [go_sem, ↓reduceIte, Nat.reduceEqDiff, Nat.reduceAdd, Nat.reduceMul, Nat.reduceSub, Int.reduceToNat, Nat.reduceBEq, s5], by simp (disch := first | (simp only [go_sem, gb0, eq_self]; done) | omega | (simp only [gl1, gl2]; omega)) only [go_sem, ↓reduceIte, Nat.reduceEqDiff, Nat.reduceAdd, Nat.reduceMul, Nat.reduceSub, Int.reduceToNat, Nat.reduceBEq, s15], by simp (disch := first | (simp only [go_sem, gb0, eq_self]; done) | omega | (simp only [gl1, gl2]; omega)) only [go_sem, ↓reduceIte, Nat.reduceEqDiff, Nat.reduceAdd, Nat.reduceMul, Nat.reduceSub, Int.reduceToNat, Nat.reduceBEq, s8, q2], by simp (disch := first | (simp only [go_sem, gb0, eq_self]; done) | omega | (simp only [gl1, gl2]; omega)) only [go_sem, ↓reduceIte, Nat.reduceEqDiff, Nat.reduceAdd, Nat.reduceMul, Nat.reduceSub, Int.reduceToNat, Nat.reduceBEq, s9, q1], rfl⟩
    | true =>
      rw [ho] at eU
      have q1 : cardB (s.take (c + 1)) = cardB (s.take c) + 1 := by rw [take_on (by omega), ho]; rfl
      have q2 := prtF_on (M := repM X rep) (row := row) (s := s) (c := c) (by omega) ho
      have q3 : sg (cardB (s.take c) + 1) = 0 - sg (cardB (s.take c)) := by rw [sg_succ]; omega
      have hsg : sg (cardB (s.take c)) = 1 ∨ sg (cardB (s.take c)) = -1 := by unfold sg; split <;> simp
      have hun := cardB_unset ho
      have b1 := absI_le.1 (prtF_bound hR row (s := s) (by omega) (c := c))
      have b2 := absI_le.1 (prtF_bound hR row (s := s) (by omega) (c := c + 1))
      have b3 := absI_le.1 (detF_bound hR (row + 1) (s := s.set c false) (by omega))
      have b4 := absI_le.1 (hR row c)
      obtain ⟨a, ha⟩ : ∃ a : Nat, a = if (c : Int) = rep then 4 else c := ⟨_, rfl⟩
      have ha5 : a < 5 := by rw [ha]; split <;> omega
      have ha5' : (a : Int) < 5 := by omega
      have hxa : repM X rep row c = X row a := by unfold repM; rw [ha]
      have hset := useL_set (s := s) (c := c) (by omega) false
      have hset' : (useL s).set c true = useL (s.set c false) := hset
      have hset2 := useL_set (s := s.set c false) (c := c) (by rw [List.length_set]; omega) true
      have hss : (s.set c false).set c true = s := by
        rw [List.set_set]
        refine list_ext_on' (by simp) fun l hl' => ?_
        rw [onB_set s c l (by omega)]
        by_cases e : l = c
        · subst e; rw [ho]; simp
        · simp [e]
      rw [hss] at hset2
      have hset2' : (useL (s.set c false)).set c false = useL s := hset2
      have hs := ih (row + 1) (s.set c false) (h'.put U (some (.cells false false ((useL (s.set c false)).flatMap (e1 AV.bool))))) (by rw [List.length_set]; exact hl) (by omega) (by omega) lN lR lM lS
        (by rw [put_bl, if_neg d1]; exact bN) (by rw [put_bl, if_pos rfl]) (by rw [put_bl, if_neg d2]; exact bR) (by rw [put_bl, if_neg d3]; exact bM) (by rw [put_bl, if_neg d4]; exact bS)
      have hcast : ((row + 1 : Nat) : Int) = (row : Int) + 1 := by omega
      rw [hcast] at hs
      have hcl := fun K => CallW_shr (K := K) 85 _ shr85 hs
      have hps : (h'.put U (some (.cells false false ((useL (s.set c false)).flatMap (e1 AV.bool))))).put U (some (.cells false false ((useL s).flatMap (e1 AV.bool)))) = h' := by rw [put_put, put_same bU]
      have hsx : -41 ≤ sg (cardB (s.take c)) * X row a ∧ sg (cardB (s.take c)) * X row a ≤ 41 := by
        rw [hxa] at b4
        rcases hsg with e | e <;> rw [e] <;> omega
      have hpd : sg (cardB (s.take c)) * X row a * detF (repM X rep) (row + 1) (s.set c false) = prtF (repM X rep) row s (c + 1) - prtF (repM X rep) row s c := by rw [q2, hxa]; omega
      have lU1 : c < (useL s).length := by omega
      have lU2 : c < (useL (s.set c false)).length := by rw [useL_len (by rw [List.length_set]; omega)]; omega
      by_cases hx0 : X row a = 0
      · have q4 : prtF (repM X rep) row s (c + 1) = prtF (repM X rep) row s c := by rw [q2, hxa, hx0]; simp
        by_cases hcr : (c : Int) = rep
        · have ha4 : a = 4 := by rw [ha, if_pos hcr]
          subst ha4
          have hd : decide ((c : Int) = rep) = true := decide_eq_true hcr
          simp (disch := first | (simp only [go_sem, gb0, eq_self]; done) | omega | (simp only [gl1, gl2]; omega)) only [go_sem, ↓reduceIte, Nat.reduceEqDiff, Nat.reduceAdd, Nat.reduceMul, Nat.reduceSub, Int.reduceToNat, Nat.reduceBEq, s0, s1, s2, s3, s4, s5, s15, s8, s9, s16, hlt, hlt', hc4, hc4', bU, bR, bM, eU, hd, hx0, hrow4, hrow4', matA_get, q3]
          rw [ForK_normal]
          exact ⟨hlt, by simp (disch := first | (simp only [go_sem, gb0, eq_self]; done) | omega | (simp only [gl1, gl2]; omega)) only [go_sem, ↓reduceIte, Nat.reduceEqDiff, Nat.reduceAdd, Nat.reduceMul, Nat.reduceSub, Int.reduceToNat, Nat.reduceBEq, s16], by simp (disch := first | (simp only [go_sem, gb0, eq_self]; done) | omega | (simp only [gl1, gl2]; omega)) only [go_sem, ↓reduceIte, Nat.reduceEqDiff, Nat.reduceAdd, Nat.reduceMul, Nat.reduceSub, Int.reduceToNat, Nat.reduceBEq, s0], by simp (disch := first | (simp only [go_sem, gb0, eq_self]; done) | omega | (simp only [gl1, gl2]; omega)) only [go_sem, ↓reduceIte, Nat.reduceEqDiff, Nat.reduceAdd, Nat.reduceMul, Nat.reduceSub, Int.reduceToNat, Nat.reduceBEq, s1], by simp (disch := first | (simp only [go_sem, gb0, eq_self]; done) | omega | (simp only [gl1, gl2]; omega)) only [go_sem, ↓reduceIte, Nat.reduceEqDiff, Nat.reduceAdd, Nat.reduceMul, Nat.reduceSub, Int.reduceToNat, Nat.reduceBEq, s2], by simp (disch := first | (simp only [go_sem, gb0, eq_self]; done) | omega | (simp only [gl1, gl2]; omega)) only [go_sem, ↓reduceIte, Nat.reduceEqDiff, Nat.reduceAdd, Nat.reduceMul, Nat.reduceSub, Int.reduceToNat, Nat.reduceBEq, s3], by simp (disch := first | (simp only [go_sem, gb0, eq_self]; done) | omega | (simp only [gl1, gl2]; omega)) only [go_sem, ↓reduceIte, Nat.reduceEqDiff, Nat.reduceAdd, Nat.reduceMul, Nat.reduceSub, Int.reduceToNat, Nat.reduceBEq, s4], by simp (disch := first | (simp only [go_sem, gb0, eq_self]; done) | omega | (simp only [gl1, gl2]; omega)) only [go_sem, ↓reduceIte, Nat.reduceEqDiff, Nat.reduceAdd, Nat.reduceMul, Nat.reduceSub, Int.reduceToNat, Nat.reduceBEq, s5], by simp (disch := first | (simp only [go_sem, gb0, eq_self]; done) | omega | (simp only [gl1, gl2]; omega)) only [go_sem, ↓reduceIte, Nat.reduceEqDiff, Nat.reduceAdd, Nat.reduceMul, Nat.reduceSub, Int.reduceToNat, Nat.reduceBEq, s15], by simp (disch := first | (simp only [go_sem, gb0, eq_self]; done) | omega | (simp only [gl1, gl2]; omega)) only [go_sem, ↓reduceIte, Nat.reduceEqDiff, Nat.reduceAdd, Nat.reduceMul, Nat.reduceSub, Int.reduceToNat, Nat.reduceBEq, s8, q4], by simp (disch := first | (simp only [go_sem, gb0, eq_self]; done) | omega | (simp only [gl1, gl2]; omega)) only [go_sem, ↓reduceIte, Nat.reduceEqDiff, Nat.reduceAdd, Nat.reduceMul, Nat.reduceSub, Int.reduceToNat, Nat.reduceBEq, s9, q1, q3], rfl⟩
        · have ha4 : a = c := by rw [ha, if_neg hcr]
          subst ha4
          simp (disch := first | (simp only [go_sem, gb0, eq_self]; done) | omega | (simp only [gl1, gl2]; omega)) only [go_sem, ↓reduceIte, Nat.reduceEqDiff, Nat.reduceAdd, Nat.reduceMul, Nat.reduceSub, Int.reduceToNat, Nat.reduceBEq, s0, s1, s2, s3, s4, s5, s15, s8, s9, s16, hlt, hlt', hc4, hc4', bU, bR, bM, eU, hcr, hx0, hrow4, hrow4', matA_get, q3]
          rw [ForK_normal]
          exact ⟨hlt, by simp (disch := first | (simp only [go_sem, gb0, eq_self]; done) | omega | (simp only [gl1, gl2]; omega)) only [go_sem, ↓reduceIte, Nat.reduceEqDiff, Nat.reduceAdd, Nat.reduceMul, Nat.reduceSub, Int.reduceToNat, Nat.reduceBEq, s16], by simp (disch := first | (simp only [go_sem, gb0, eq_self]; done) | omega | (simp only [gl1, gl2]; omega)) only [go_sem, ↓reduceIte, Nat.reduceEqDiff, Nat.reduceAdd, Nat.reduceMul, Nat.reduceSub, Int.reduceToNat, Nat.reduceBEq, s0], by simp (disch := first | (simp only [go_sem, gb0, eq_self]; done) | omega | (simp only [gl1, gl2]; omega)) only [go_sem, ↓reduceIte, Nat.reduceEqDiff, Nat.reduceAdd, Nat.reduceMul, Nat.reduceSub, Int.reduceToNat, Nat.reduceBEq, s1], by simp (disch := first | (simp only [go_sem, gb0, eq_self]; done) | omega | (simp only [gl1, gl2]; omega)) only [go_sem, ↓reduceIte, Nat.reduceEqDiff, Nat.reduceAdd, Nat.reduceMul, Nat.reduceSub, Int.reduceToNat, Nat.reduceBEq, s2], by simp (disch := first | (simp only [go_sem, gb0, eq_self]; done) | omega | (simp only [gl1, gl2]; omega)) only [go_sem, ↓reduceIte, Nat.reduceEqDiff, Nat.reduceAdd, Nat.reduceMul, Nat.reduceSub, Int.reduceToNat, Nat.reduceBEq, s3], by simp (disch := first | (simp only [go_sem, gb0, eq_self]; done) | omega | (simp only [gl1, gl2]; omega)) only [go_sem, ↓reduceIte, Nat.reduceEqDiff, Nat.reduceAdd, Nat.reduceMul, Nat.reduceSub, Int.reduceToNat, Nat.reduceBEq, s4], by simp (disch := first | (simp only [go_sem, gb0, eq_self]; done) | omega | (simp only [gl1, gl2]; omega)) only [go_sem, ↓reduceIte, Nat.reduceEqDiff, Nat.reduceAdd, Nat.reduceMul, Nat.reduceSub, Int.reduceToNat, Nat.reduceBEq, s5], by simp (disch := first | (simp only [go_sem, gb0, eq_self]; done) | omega | (simp only [gl1, gl2]; omega)) only [go_sem, ↓reduceIte, Nat.reduceEqDiff, Nat.reduceAdd, Nat.reduceMul, Nat.reduceSub, Int.reduceToNat, Nat.reduceBEq, s15], by simp (disch := first | (simp only [go_sem, gb0, eq_self]; done) | omega | (simp only [gl1, gl2]; omega)) only [go_sem, ↓reduceIte, Nat.reduceEqDiff, Nat.reduceAdd, Nat.reduceMul, Nat.reduceSub, Int.reduceToNat, Nat.reduceBEq, s8, q4], by simp (disch := first | (simp only [go_sem, gb0, eq_self]; done) | omega | (simp only [gl1, gl2]; omega)) only [go_sem, ↓reduceIte, Nat.reduceEqDiff, Nat.reduceAdd, Nat.reduceMul, Nat.reduceSub, Int.reduceToNat, Nat.reduceBEq, s9, q1, q3], rfl⟩
      · have eMU : (M == U) = false := by simp [d3]
        have eSU : (S == U) = false := by simp [d4]
        by_cases hcr : (c : Int) = rep
        · have ha4 : a = 4 := by rw [ha, if_pos hcr]
          subst ha4
          have hd : decide ((c : Int) = rep) = true := decide_eq_true hcr
          simp (disch := first | (simp only [go_sem, gb0, eq_self]; done) | omega | (simp only [gl1, gl2]; omega)) only [go_sem, ↓reduceIte, Nat.reduceEqDiff, Nat.reduceAdd, Nat.reduceMul, Nat.reduceSub, Int.reduceToNat, Nat.reduceBEq, s0, s1, s2, s3, s4, s5, s15, s8, s9, s16, hlt, hlt', hc4, hc4', bU, bR, bM, eU, hd, hx0, hrow4, hrow4', matA_get, lU1, hset', ↓stopY 13 true]
          refine WPy_go (fun st h2 => st 0 = I row ∧ st 1 = .ptr N 0 ∧ st 2 = .ptr U 0 ∧ st 3 = .ptr R 0 ∧ st 4 = .ptr M 0 ∧ st 5 = .ptr S 0 ∧ st 15 = I n ∧ st 8 = I (prtF (repM X rep) row s c) ∧ st 9 = I (sg (cardB (s.take c))) ∧ st 10 = I c ∧ st 16 = I c ∧ st 11 = I 4 ∧ h2 = h'.put U (some (.cells false false ((useL (s.set c false)).flatMap (e1 AV.bool))))) ⟨by simp (disch := first | (simp only [go_sem, gb0, eq_self]; done) | omega | (simp only [gl1, gl2]; omega)) only [go_sem, ↓reduceIte, Nat.reduceEqDiff, Nat.reduceAdd, Nat.reduceMul, Nat.reduceSub, Int.reduceToNat, Nat.reduceBEq, s0, s1, s2, s3, s4, s5, s15, s8, s9, s16], by simp (disch := first | (simp only [go_sem, gb0, eq_self]; done) | omega | (simp only [gl1, gl2]; omega)) only [go_sem, ↓reduceIte, Nat.reduceEqDiff, Nat.reduceAdd, Nat.reduceMul, Nat.reduceSub, Int.reduceToNat, Nat.reduceBEq, s0, s1, s2, s3, s4, s5, s15, s8, s9, s16], by simp (disch := first | (simp only [go_sem, gb0, eq_self]; done) | omega | (simp only [gl1, gl2]; omega)) only [go_sem, ↓reduceIte, Nat.reduceEqDiff, Nat.reduceAdd, Nat.reduceMul, Nat.reduceSub, Int.reduceToNat, Nat.reduceBEq, s0, s1, s2, s3, s4, s5, s15, s8, s9, s16], by simp (disch := first | (simp only [go_sem, gb0, eq_self]; done) | omega | (simp only [gl1, gl2]; omega)) only [go_sem, ↓reduceIte, Nat.reduceEqDiff, Nat.reduceAdd, Nat.reduceMul, Nat.reduceSub, Int.reduceToNat, Nat.reduceBEq, s0, s1, s2, s3, s4, s5, s15, s8, s9, s16], by simp (disch := first | (simp only [go_sem, gb0, eq_self]; done) | omega | (simp only [gl1, gl2]; omega)) only [go_sem, ↓reduceIte, Nat.reduceEqDiff, Nat.reduceAdd, Nat.reduceMul, Nat.reduceSub, Int.reduceToNat, Nat.reduceBEq, s0, s1, s2, s3, s4, s5, s15, s8, s9, s16], by simp (disch := first | (simp only [go_sem, gb0, eq_self]; done) | omega | (simp only [gl1, gl2]; omega)) only [go_sem, ↓reduceIte, Nat.reduceEqDiff, Nat.reduceAdd, Nat.reduceMul, Nat.reduceSub, Int.reduceToNat, Nat.reduceBEq, s0, s1, s2, s3, s4, s5, s15, s8, s9, s16], by simp (disch := first | (simp only [go_sem, gb0, eq_self]; done) | omega | (simp only [gl1, gl2]; omega)) only [go_sem, ↓reduceIte, Nat.reduceEqDiff, Nat.reduceAdd, Nat.reduceMul, Nat.reduceSub, Int.reduceToNat, Nat.reduceBEq, s0, s1, s2, s3, s4, s5, s15, s8, s9, s16], by simp (disch := first | (simp only [go_sem, gb0, eq_self]; done) | omega | (simp only [gl1, gl2]; omega)) only [go_sem, ↓reduceIte, Nat.reduceEqDiff, Nat.reduceAdd, Nat.reduceMul, Nat.reduceSub, Int.reduceToNat, Nat.reduceBEq, s0, s1, s2, s3, s4, s5, s15, s8, s9, s16], by simp (disch := first | (simp only [go_sem, gb0, eq_self]; done) | omega | (simp only [gl1, gl2]; omega)) only [go_sem, ↓reduceIte, Nat.reduceEqDiff, Nat.reduceAdd, Nat.reduceMul, Nat.reduceSub, Int.reduceToNat, Nat.reduceBEq, s0, s1, s2, s3, s4, s5, s15, s8, s9, s16], by simp (disch := first | (simp only [go_sem, gb0, eq_self]; done) | omega | (simp only [gl1, gl2]; omega)) only [go_sem, ↓reduceIte, Nat.reduceEqDiff, Nat.reduceAdd, Nat.reduceMul, Nat.reduceSub, Int.reduceToNat, Nat.reduceBEq, s0, s1, s2, s3, s4, s5, s15, s8, s9, s16], by simp (disch := first | (simp only [go_sem, gb0, eq_self]; done) | omega | (simp only [gl1, gl2]; omega)) only [go_sem, ↓reduceIte, Nat.reduceEqDiff, Nat.reduceAdd, Nat.reduceMul, Nat.reduceSub, Int.reduceToNat, Nat.reduceBEq, s0, s1, s2, s3, s4, s5, s15, s8, s9, s16], by simp (disch := first | (simp only [go_sem, gb0, eq_self]; done) | omega | (simp only [gl1, gl2]; omega)) only [go_sem, ↓reduceIte, Nat.reduceEqDiff, Nat.reduceAdd, Nat.reduceMul, Nat.reduceSub, Int.reduceToNat, Nat.reduceBEq], rfl⟩ ?_
          clear s0 s1 s2 s3 s4 s5 s15 s8 s9 s16
          rintro st h2 ⟨s0, s1, s2, s3, s4, s5, s15, s8, s9, s10, s16, s11, rfl⟩
          simp (maxSteps := 3000000) (disch := first | (simp only [go_sem, gb0, eq_self]; done) | omega | (simp only [gl1, gl2]; omega)) only [go_sem, ↓reduceIte, Nat.reduceEqDiff, Nat.reduceAdd, Nat.reduceMul, Nat.reduceSub, Int.reduceToNat, Nat.reduceBEq, s0, s1, s2, s3, s4, s5, s15, s8, s9, s10, s16, s11, hc4, hc4', bM, bS, hrow4, hrow4', matA_get, lM, lS, eMU, eSU, d3, d4, List.cons_append, List.nil_append, hcl, hpd, lU2, hset2', List.filterMap_cons, List.filterMap_nil, List.contains_nil, List.contains_cons, Bool.not_false, Bool.not_true, Bool.or_true, Bool.true_or, List.nil_append, List.cons_append, Nat.reduceLT, decide_true, decide_false, List.drop_succ_cons]
          rw [ForK_normal]
          refine ⟨hlt, by simp (disch := first | (simp only [go_sem, gb0, eq_self]; done) | omega | (simp only [gl1, gl2]; omega)) only [go_sem, ↓reduceIte, Nat.reduceEqDiff, Nat.reduceAdd, Nat.reduceMul, Nat.reduceSub, Int.reduceToNat, Nat.reduceBEq, s16], by simp (disch := first | (simp only [go_sem, gb0, eq_self]; done) | omega | (simp only [gl1, gl2]; omega)) only [go_sem, ↓reduceIte, Nat.reduceEqDiff, Nat.reduceAdd, Nat.reduceMul, Nat.reduceSub, Int.reduceToNat, Nat.reduceBEq, s0], by simp (disch := first | (simp only [go_sem, gb0, eq_self]; done) | omega | (simp only [gl1, gl2]; omega)) only [go_sem, ↓reduceIte, Nat.reduceEqDiff, Nat.reduceAdd, Nat.reduceMul, Nat.reduceSub, Int.reduceToNat, Nat.reduceBEq, s1], by simp (disch := first | (simp only [go_sem, gb0, eq_self]; done) | omega | (simp only [gl1, gl2]; omega)) only [go_sem, ↓reduceIte, Nat.reduceEqDiff, Nat.reduceAdd, Nat.reduceMul, Nat.reduceSub, Int.reduceToNat, Nat.reduceBEq, s2], by simp (disch := first | (simp only [go_sem, gb0, eq_self]; done) | omega | (simp only [gl1, gl2]; omega)) only [go_sem, ↓reduceIte, Nat.reduceEqDiff, Nat.reduceAdd, Nat.reduceMul, Nat.reduceSub, Int.reduceToNat, Nat.reduceBEq, s3], by simp (disch := first | (simp only [go_sem, gb0, eq_self]; done) | omega | (simp only [gl1, gl2]; omega)) only [go_sem, ↓reduceIte, Nat.reduceEqDiff, Nat.reduceAdd, Nat.reduceMul, Nat.reduceSub, Int.reduceToNat, Nat.reduceBEq, s4], by simp (disch := first | (simp only [go_sem, gb0, eq_self]; done) | omega | (simp only [gl1, gl2]; omega)) only [go_sem, ↓reduceIte, Nat.reduceEqDiff, Nat.reduceAdd, Nat.reduceMul, Nat.reduceSub, Int.reduceToNat, Nat.reduceBEq, s5], by simp (disch := first | (simp only [go_sem, gb0, eq_self]; done) | omega | (simp only [gl1, gl2]; omega)) only [go_sem, ↓reduceIte, Nat.reduceEqDiff, Nat.reduceAdd, Nat.reduceMul, Nat.reduceSub, Int.reduceToNat, Nat.reduceBEq, s15], ?_, by simp (disch := first | (simp only [go_sem, gb0, eq_self]; done) | omega | (simp only [gl1, gl2]; omega)) only [go_sem, ↓reduceIte, Nat.reduceEqDiff, Nat.reduceAdd, Nat.reduceMul, Nat.reduceSub, Int.reduceToNat, Nat.reduceBEq, s9, q1, q3], ?_⟩
          · have hw : prtF (repM X rep) row s c + (prtF (repM X rep) row s (c + 1) - prtF (repM X rep) row s c) = prtF (repM X rep) row s (c + 1) := by omega
            simp (disch := first | (simp only [go_sem, gb0, eq_self]; done) | omega | (simp only [gl1, gl2]; omega)) only [go_sem, ↓reduceIte, Nat.reduceEqDiff, Nat.reduceAdd, Nat.reduceMul, Nat.reduceSub, Int.reduceToNat, Nat.reduceBEq, hw]
          · rw [put_put]; exact put_same bU
        · have ha4 : c = a := by rw [ha, if_neg hcr]
          subst ha4
          simp (disch := first | (simp only [go_sem, gb0, eq_self]; done) | omega | (simp only [gl1, gl2]; omega)) only [go_sem, ↓reduceIte, Nat.reduceEqDiff, Nat.reduceAdd, Nat.reduceMul, Nat.reduceSub, Int.reduceToNat, Nat.reduceBEq, s0, s1, s2, s3, s4, s5, s15, s8, s9, s16, hlt, hlt', hc4, hc4', bU, bR, bM, eU, hcr, hx0, hrow4, hrow4', matA_get, lU1, hset', ↓stopY 13 true]
          refine WPy_go (fun st h2 => st 0 = I row ∧ st 1 = .ptr N 0 ∧ st 2 = .ptr U 0 ∧ st 3 = .ptr R 0 ∧ st 4 = .ptr M 0 ∧ st 5 = .ptr S 0 ∧ st 15 = I n ∧ st 8 = I (prtF (repM X rep) row s c) ∧ st 9 = I (sg (cardB (s.take c))) ∧ st 10 = I c ∧ st 16 = I c ∧ st 11 = I c ∧ h2 = h'.put U (some (.cells false false ((useL (s.set c false)).flatMap (e1 AV.bool))))) ⟨by simp (disch := first | (simp only [go_sem, gb0, eq_self]; done) | omega | (simp only [gl1, gl2]; omega)) only [go_sem, ↓reduceIte, Nat.reduceEqDiff, Nat.reduceAdd, Nat.reduceMul, Nat.reduceSub, Int.reduceToNat, Nat.reduceBEq, s0, s1, s2, s3, s4, s5, s15, s8, s9, s16], by simp (disch := first | (simp only [go_sem, gb0, eq_self]; done) | omega | (simp only [gl1, gl2]; omega)) only [go_sem, ↓reduceIte, Nat.reduceEqDiff, Nat.reduceAdd, Nat.reduceMul, Nat.reduceSub, Int.reduceToNat, Nat.reduceBEq, s0, s1, s2, s3, s4, s5, s15, s8, s9, s16], by simp (disch := first | (simp only [go_sem, gb0, eq_self]; done) | omega | (simp only [gl1, gl2]; omega)) only [go_sem, ↓reduceIte, Nat.reduceEqDiff, Nat.reduceAdd, Nat.reduceMul, Nat.reduceSub, Int.reduceToNat, Nat.reduceBEq, s0, s1, s2, s3, s4, s5, s15, s8, s9, s16], by simp (disch := first | (simp only [go_sem, gb0, eq_self]; done) | omega | (simp only [gl1, gl2]; omega)) only [go_sem, ↓reduceIte, Nat.reduceEqDiff, Nat.reduceAdd, Nat.reduceMul, Nat.reduceSub, Int.reduceToNat, Nat.reduceBEq, s0, s1, s2, s3, s4, s5, s15, s8, s9, s16], by simp (disch := first | (simp only [go_sem, gb0, eq_self]; done) | omega | (simp only [gl1, gl2]; omega)) only [go_sem, ↓reduceIte, Nat.reduceEqDiff, Nat.reduceAdd, Nat.reduceMul, Nat.reduceSub, Int.reduceToNat, Nat.reduceBEq, s0, s1, s2, s3, s4, s5, s15, s8, s9, s16], by simp (disch := first | (simp only [go_sem, gb0, eq_self]; done) | omega | (simp only [gl1, gl2]; omega)) only [go_sem, ↓reduceIte, Nat.reduceEqDiff, Nat.reduceAdd, Nat.reduceMul, Nat.reduceSub, Int.reduceToNat, Nat.reduceBEq, s0, s1, s2, s3, s4, s5, s15, s8, s9, s16], by simp (disch := first | (simp only [go_sem, gb0, eq_self]; done) | omega | (simp only [gl1, gl2]; omega)) only [go_sem, ↓reduceIte, Nat.reduceEqDiff, Nat.reduceAdd, Nat.reduceMul, Nat.reduceSub, Int.reduceToNat, Nat.reduceBEq, s0, s1, s2, s3, s4, s5, s15, s8, s9, s16], by simp (disch := first | (simp only [go_sem, gb0, eq_self]; done) | omega | (simp only [gl1, gl2]; omega)) only [go_sem, ↓reduceIte, Nat.reduceEqDiff, Nat.reduceAdd, Nat.reduceMul, Nat.reduceSub, Int.reduceToNat, Nat.reduceBEq, s0, s1, s2, s3, s4, s5, s15, s8, s9, s16], by simp (disch := first | (simp only [go_sem, gb0, eq_self]; done) | omega | (simp only [gl1, gl2]; omega)) only [go_sem, ↓reduceIte, Nat.reduceEqDiff, Nat.reduceAdd, Nat.reduceMul, Nat.reduceSub, Int.reduceToNat, Nat.reduceBEq, s0, s1, s2, s3, s4, s5, s15, s8, s9, s16], by simp (disch := first | (simp only [go_sem, gb0, eq_self]; done) | omega | (simp only [gl1, gl2]; omega)) only [go_sem, ↓reduceIte, Nat.reduceEqDiff, Nat.reduceAdd, Nat.reduceMul, Nat.reduceSub, Int.reduceToNat, Nat.reduceBEq, s0, s1, s2, s3, s4, s5, s15, s8, s9, s16], by simp (disch := first | (simp only [go_sem, gb0, eq_self]; done) | omega | (simp only [gl1, gl2]; omega)) only [go_sem, ↓reduceIte, Nat.reduceEqDiff, Nat.reduceAdd, Nat.reduceMul, Nat.reduceSub, Int.reduceToNat, Nat.reduceBEq, s0, s1, s2, s3, s4, s5, s15, s8, s9, s16], by simp (disch := first | (simp only [go_sem, gb0, eq_self]; done) | omega | (simp only [gl1, gl2]; omega)) only [go_sem, ↓reduceIte, Nat.reduceEqDiff, Nat.reduceAdd, Nat.reduceMul, Nat.reduceSub, Int.reduceToNat, Nat.reduceBEq], rfl⟩ ?_
          clear s0 s1 s2 s3 s4 s5 s15 s8 s9 s16
          rintro st h2 ⟨s0, s1, s2, s3, s4, s5, s15, s8, s9, s10, s16, s11, rfl⟩
          simp (maxSteps := 3000000) (disch := first | (simp only [go_sem, gb0, eq_self]; done) | omega | (simp only [gl1, gl2]; omega)) only [go_sem, ↓reduceIte, Nat.reduceEqDiff, Nat.reduceAdd, Nat.reduceMul, Nat.reduceSub, Int.reduceToNat, Nat.reduceBEq, s0, s1, s2, s3, s4, s5, s15, s8, s9, s10, s16, s11, hc4, hc4', bM, bS, hrow4, hrow4', matA_get, lM, lS, eMU, eSU, d3, d4, List.cons_append, List.nil_append, hcl, hpd, lU2, hset2', List.filterMap_cons, List.filterMap_nil, List.contains_nil, List.contains_cons, Bool.not_false, Bool.not_true, Bool.or_true, Bool.true_or, List.nil_append, List.cons_append, Nat.reduceLT, decide_true, decide_false, List.drop_succ_cons]
          rw [ForK_normal]
          refine ⟨hlt, by simp (disch := first | (simp only [go_sem, gb0, eq_self]; done) | omega | (simp only [gl1, gl2]; omega)) only [go_sem, ↓reduceIte, Nat.reduceEqDiff, Nat.reduceAdd, Nat.reduceMul, Nat.reduceSub, Int.reduceToNat, Nat.reduceBEq, s16], by simp (disch := first | (simp only [go_sem, gb0, eq_self]; done) | omega | (simp only [gl1, gl2]; omega)) only [go_sem, ↓reduceIte, Nat.reduceEqDiff, Nat.reduceAdd, Nat.reduceMul, Nat.reduceSub, Int.reduceToNat, Nat.reduceBEq, s0], by simp (disch := first | (simp only [go_sem, gb0, eq_self]; done) | omega | (simp only [gl1, gl2]; omega)) only [go_sem, ↓reduceIte, Nat.reduceEqDiff, Nat.reduceAdd, Nat.reduceMul, Nat.reduceSub, Int.reduceToNat, Nat.reduceBEq, s1], by simp (disch := first | (simp only [go_sem, gb0, eq_self]; done) | omega | (simp only [gl1, gl2]; omega)) only [go_sem, ↓reduceIte, Nat.reduceEqDiff, Nat.reduceAdd, Nat.reduceMul, Nat.reduceSub, Int.reduceToNat, Nat.reduceBEq, s2], by simp (disch := first | (simp only [go_sem, gb0, eq_self]; done) | omega | (simp only [gl1, gl2]; omega)) only [go_sem, ↓reduceIte, Nat.reduceEqDiff, Nat.reduceAdd, Nat.reduceMul, Nat.reduceSub, Int.reduceToNat, Nat.reduceBEq, s3], by simp (disch := first | (simp only [go_sem, gb0, eq_self]; done) | omega | (simp only [gl1, gl2]; omega)) only [go_sem, ↓reduceIte, Nat.reduceEqDiff, Nat.reduceAdd, Nat.reduceMul, Nat.reduceSub, Int.reduceToNat, Nat.reduceBEq, s4], by simp (disch := first | (simp only [go_sem, gb0, eq_self]; done) | omega | (simp only [gl1, gl2]; omega)) only [go_sem, ↓reduceIte, Nat.reduceEqDiff, Nat.reduceAdd, Nat.reduceMul, Nat.reduceSub, Int.reduceToNat, Nat.reduceBEq, s5], by simp (disch := first | (simp only [go_sem, gb0, eq_self]; done) | omega | (simp only [gl1, gl2]; omega)) only [go_sem, ↓reduceIte, Nat.reduceEqDiff, Nat.reduceAdd, Nat.reduceMul, Nat.reduceSub, Int.reduceToNat, Nat.reduceBEq, s15], ?_, by simp (disch := first | (simp only [go_sem, gb0, eq_self]; done) | omega | (simp only [gl1, gl2]; omega)) only [go_sem, ↓reduceIte, Nat.reduceEqDiff, Nat.reduceAdd, Nat.reduceMul, Nat.reduceSub, Int.reduceToNat, Nat.reduceBEq, s9, q1, q3], ?_⟩
          · have hw : prtF (repM X rep) row s c + (prtF (repM X rep) row s (c + 1) - prtF (repM X rep) row s c) = prtF (repM X rep) row s (c + 1) := by omega
            simp (disch := first | (simp only [go_sem, gb0, eq_self]; done) | omega | (simp only [gl1, gl2]; omega)) only [go_sem, ↓reduceIte, Nat.reduceEqDiff, Nat.reduceAdd, Nat.reduceMul, Nat.reduceSub, Int.reduceToNat, Nat.reduceBEq, hw]
          · rw [put_put]; exact put_same bU

theorem f83_con {n : Nat} {X : Mat} {rep : Int} (hn : n ≤ 4) (hX : ∀ r c, absI (X r c) ≤ 41) : Con Try.prog cfg 83 [.agg (matA X), I n, I rep] (I (det n (repM X rep))) := by
  have hal : ∀ g : Hp, allocB g (some (.agg (matA X))) = some (.ptr g.nx 0, g.alloc (.cells false false (matA X))) := fun g => allocB_agg _ (matA_cell _)
  have hal2 : ∀ g : Hp, allocB g (some (.agg [.bool false, .bool false, .bool false, .bool false])) = some (.ptr g.nx 0, g.alloc (.cells false false ((List.replicate 4 false).flatMap (e1 AV.bool)))) := fun g => allocB_agg _ rfl
  have hu : useL (List.replicate n true) = List.replicate 4 false := by
    match n, hn with
    | 0, _ => rfl
    | 1, _ => rfl
    | 2, _ => rfl
    | 3, _ => rfl
    | 4, _ => rfl
  obtain ⟨H, hH⟩ : ∃ H : Hp, H = (((((Hp.empty.alloc (.cells false false (matA X))).alloc (.cells false false [I n])).alloc (.cells false false [I rep])).alloc (.cells false false ((List.replicate 4 false).flatMap (e1 AV.bool)))).alloc (.cells false false [.nilfn])).put 4 (some (.cells false false [.fn 85 [.ptr 1 0, .ptr 3 0, .ptr 2 0, .ptr 0 0, .ptr 4 0]])) := ⟨_, rfl⟩
  have hs := f85_shr (n := n) (N := 1) (U := 3) (R := 2) (M := 0) (S := 4) (X := X) (rep := rep) hn hX (by decide) (by decide) (by decide) (by decide) n 0 (List.replicate n true) H (by simp) (by simp [cardB]) (by omega)
    (by rw [hH]; show 1 < 5; decide) (by rw [hH]; show 2 < 5; decide) (by rw [hH]; show 0 < 5; decide) (by rw [hH]; show 4 < 5; decide) (by rw [hH]; rfl) (by rw [hH, hu]; rfl) (by rw [hH]; rfl) (by rw [hH]; rfl) (by rw [hH]; rfl)
  rw [detF_full] at hs
  have hb := absI_le.1 (detF_bound (M := repM X rep) (fun r c => hX _ _) 0 (s := List.replicate n true) (by simp [cardB]; exact hn))
  rw [detF_full] at hb
  have hcl := fun K => CallW_shr (K := K) 85 _ shr85 hs
  rw [hH] at hcl
  refine Con_intro Try.func83 rfl ok83 (Nat.le_of_ble_eq_true rfl) rfl ?_
  simp only [Try.f83, Option.getD_some, initSt3]
  simp (disch := first | (simp only [go_sem, gb0, eq_self]; done) | omega | (simp only [gl1, gl2]; omega)) only [go_sem, ↓reduceIte, Nat.reduceEqDiff, Nat.reduceAdd, Nat.reduceMul, Nat.reduceSub, Int.reduceToNat, Nat.reduceBEq, hal, hal2, List.cons_append, List.nil_append]
  refine Eq.mpr (hcl _) ?_
  simp (disch := first | (simp only [go_sem, gb0, eq_self]; done) | omega | (simp only [gl1, gl2]; omega)) only [go_sem, ↓reduceIte, Nat.reduceEqDiff, Nat.reduceAdd, Nat.reduceMul, Nat.reduceSub, Int.reduceToNat, Nat.reduceBEq]
end Go.Proofs.Ytcdpkgmkckfonaa

set_option linter.unusedVariables false
set_option linter.unusedSimpArgs false
namespace Go.Proofs.Ytcdpkgmkckfonaa
open Go Go.Am

abbrev Tab := Nat → Nat → Int
/-- The constraints of a side with m own acts: no number is negative, and no column (sg = 1) or each column (sg = -1) gains at least the right side. -/
def CX (m : Nat) (P : Tab) (sg : Int) (l i : Nat) : Int := if l < m then (if i = l then 1 else 0) else - sg * P i (l - m)
def rX (m : Nat) (sg : Int) (w : Vec) (l : Nat) : Int := if l < m then 0 else - sg * w (l - m)
def S0 (m n : Nat) : List Bool := List.replicate m true ++ List.replicate n false
section
variable {m n : Nat} {P : Tab} {sg : Int} {M W : Int}
/-- A corner of the given system, at which the constraints of s are tight. -/
structure Vtx (m n : Nat) (P : Tab) (sg : Int) (s : List Bool) : Prop where
  len : s.length = m + n
  card : cardB s = m
  ind : Indep m (CX m P sg) s
  pt : ∃ x t, 0 < t ∧ ∀ l, l < m + n → 0 ≤ gap m (CX m P sg) (rX m sg fun _ => 1) x t l ∧ (onB s l = true → gap m (CX m P sg) (rX m sg fun _ => 1) x t l = 0)
end
end Go.Proofs.Ytcdpkgmkckfonaa

set_option linter.unusedVariables false
set_option linter.unusedSimpArgs false
set_option maxRecDepth 10000
namespace Go.Proofs.Ytcdpkgmkckfonaa
open Go Go.Am

variable {h h' : Hp} {K : AV → Hp → Prop}

/-- A table of gains. -/
structure Tb (a : List (List Int)) (m n : Nat) : Prop where
  m1 : 1 ≤ m
  m4 : m ≤ 4
  n1 : 1 ≤ n
  n4 : n ≤ 4
  len : a.length = m
  row : ∀ i, i < m → (nth a i).length = n
  bd : ∀ i, i < m → ∀ j, j < n → -20 ≤ nth (nth a i) j ∧ nth (nth a i) j ≤ 20
/-- All gains made positive. -/
def PT (a : List (List Int)) : Tab := fun i j => nth (nth a i) j + 21
/-- What a column gains against numbers of the rows. -/
def gainC (a : List (List Int)) (m : Nat) (xs : List Int) (j : Nat) : Int := sumN (fun i => nth xs i * PT a i j) m
def sumC (m : Nat) (xs : List Int) : Int := sumN (fun i => nth xs i) m
def labF (a : List (List Int)) (m : Nat) (xs : List Int) (den : Int) (k : Nat) : Bool := if k < m then decide (nth xs k = 0) else decide (gainC a m xs (k - m) = den)
def labC (a : List (List Int)) (m n : Nat) (xs : List Int) (den : Int) : List Bool := fillR 8 (labF a m xs den) false (m + n)
def okLab (a : List (List Int)) (m n : Nat) (xs : List Int) (den : Int) : Bool :=
  (List.range m).all (fun i => decide (0 ≤ nth xs i)) && ((List.range n).all (fun j => decide (gainC a m xs j ≤ den)) && decide (0 < sumC m xs))

/-- A corner in memory. -/
abbrev cbl (v : AV) (d : Int) (bs : List Bool) : Blk := .cells false false (v :: I d :: bs.flatMap (e1 AV.bool))
@[go_sem] theorem cbl_store (id i : Nat) (v : AV) (d : Int) (bs : List Bool) (b : Bool) (hi : i < bs.length) : storeC h id (2 + i) 1 (some (cbl v d bs)) [.bool b] = some (.skp, h.put id (some (cbl v d (bs.set i b)))) := by
  rw [storeC_one id _ false _ (.bool b) rfl (by simp only [List.length_cons, flat_len]; omega)]
  have : (v :: I d :: bs.flatMap (e1 AV.bool)).set (2 + i) (.bool b) = v :: I d :: (bs.set i b).flatMap (e1 AV.bool) := by
    rw [Nat.add_comm, List.set_cons_succ, List.set_cons_succ, set_flat]
  rw [this]
theorem nums_b {xs : List Int} {m : Nat} (hb : ∀ x ∈ xs, -723394816 ≤ x ∧ x ≤ 723394816) (hl : xs.length = m) {i : Nat} (hi : i < m) : -723394816 ≤ nth xs i ∧ nth xs i ≤ 723394816 := hb _ (nth_mem (by omega))
theorem PT_b {a : List (List Int)} {m n : Nat} (T : Tb a m n) {i j : Nat} (hi : i < m) (hj : j < n) : 1 ≤ PT a i j ∧ PT a i j ≤ 41 := by have := T.bd i hi j hj; unfold PT; omega
theorem prod_b {x y : Int} (hx : -723394816 ≤ x ∧ x ≤ 723394816) (hy : 1 ≤ y ∧ y ≤ 41) : -29659187456 ≤ x * y ∧ x * y ≤ 29659187456 := by
  constructor
  · have h1 : -723394816 * y ≤ x * y := Int.mul_le_mul_of_nonneg_right hx.1 (by omega)
    have h2 : -723394816 * 41 ≤ -723394816 * y := by omega
    omega
  · have h1 : x * y ≤ 723394816 * y := Int.mul_le_mul_of_nonneg_right hx.2 (by omega)
    omega
theorem sum_part_b {f : Nat → Int} {B : Int} (hB : 0 ≤ B) {m : Nat} (hf : ∀ i, i < m → -B ≤ f i ∧ f i ≤ B) : ∀ k, k ≤ m → -(k * B) ≤ sumN f k ∧ sumN f k ≤ k * B
  | 0, _ => by simp [sumN]
  | k + 1, hk => by
    have h1 := sum_part_b hB hf k (by omega)
    have h2 := hf k (by omega)
    have h3 : ((k + 1 : Nat) : Int) * B = k * B + B := by rw [Int.natCast_add, Int.add_mul]; omega
    rw [sumN, h3]; omega

set_option maxHeartbeats 1000000 in
theorem f84_shr {a : List (List Int)} {m n : Nat} (T : Tb a m n) {xs : List Int} {den : Int} {C id : Nat} (hl : xs.length = m) (hb : ∀ x ∈ xs, -723394816 ≤ x ∧ x ≤ 723394816) (hd : C ≠ id) (hC : C < h.nx)
    (bC : h.bl C = some (cbl (.sl id 0 m 1) den (List.replicate 8 false))) (bI : h.bl id = some (.cells false true (xs.flatMap (e1 I)))) :
    ∃ h', Shr Try.prog cfg 84 [.ptr C 0, LLI a] h (.bool (okLab a m n xs den)) h' ∧ h'.nx = h.nx ∧ (∀ k, k ≠ C → h'.bl k = h.bl k) ∧
      ∃ d bs, h'.bl C = some (cbl (.sl id 0 m 1) d bs) ∧ bs.length = 8 ∧ (okLab a m n xs den = true → d = sumC m xs ∧ bs = labC a m n xs den) := by
  have hm1 := T.m1
  have hm4 := T.m4
  have hn1 := T.n1
  have hn4 := T.n4
  suffices hh : ∃ v h', Shr Try.prog cfg 84 [.ptr C 0, LLI a] h v h' ∧ (v = .bool (okLab a m n xs den) ∧ h'.nx = h.nx ∧ (∀ k, k ≠ C → h'.bl k = h.bl k) ∧
      ∃ d bs, h'.bl C = some (cbl (.sl id 0 m 1) d bs) ∧ bs.length = 8 ∧ (okLab a m n xs den = true → d = sumC m xs ∧ bs = labC a m n xs den)) by
    obtain ⟨v, h', hs, rfl, r⟩ := hh
    exact ⟨h', hs, r⟩
  have hla := T.len
  have hl0 := T.row 0 (by omega)
  refine Shr_intro Try.func84 rfl ok84 (Nat.le_of_ble_eq_true rfl) ?_
  simp only [Try.f84, Option.getD_some, initSt2]
  simp (disch := first | (simp only [go_sem, gb0, eq_self]; done) | omega | (simp only [gl1, gl2]; omega)) only [go_sem, ↓reduceIte, Nat.reduceEqDiff, Nat.reduceAdd, Nat.reduceMul, Nat.reduceSub, Int.reduceToNat, Nat.reduceBEq, bC, hla]
  refine WP_cut (fun st g => st 0 = .ptr C 0 ∧ st 1 = LLI a ∧ st 5 = I m ∧ st 6 = I (sumC m xs) ∧ g.nx = h.nx ∧ (∀ k, k ≠ C → g.bl k = h.bl k) ∧ g.bl C = some (cbl (.sl id 0 m 1) den (fillR 8 (labF a m xs den) false m)) ∧ ∀ k, k < m → 0 ≤ nth xs k) ?_ ?_
  · refine WP_for 21 m (fun i st g => st 0 = .ptr C 0 ∧ st 1 = LLI a ∧ st 5 = I m ∧ st 19 = .sl id 0 m 1 ∧ st 20 = I m ∧ st 6 = I (sumN (fun i => nth xs i) i) ∧ g.nx = h.nx ∧ (∀ k, k ≠ C → g.bl k = h.bl k) ∧ g.bl C = some (cbl (.sl id 0 m 1) den (fillR 8 (labF a m xs den) false i)) ∧ ∀ k, k < i → 0 ≤ nth xs k) (by simp (disch := first | (simp only [go_sem, gb0, eq_self]; done) | omega | (simp only [gl1, gl2]; omega)) only [go_sem, ↓reduceIte, Nat.reduceEqDiff, Nat.reduceAdd, Nat.reduceMul, Nat.reduceSub, Int.reduceToNat, Nat.reduceBEq]) ⟨by simp (disch := first | (simp only [go_sem, gb0, eq_self]; done) | omega | (simp only [gl1, gl2]; omega)) only [go_sem, ↓reduceIte, Nat.reduceEqDiff, Nat.reduceAdd, Nat.reduceMul, Nat.reduceSub, Int.reduceToNat, Nat.reduceBEq], by simp (disch := first | (simp only [go_sem, gb0, eq_self]; done) | omega | (simp only [gl1, gl2]; omega)) only [go_sem, ↓reduceIte, Nat.reduceEqDiff, Nat.reduceAdd, Nat.reduceMul, Nat.reduceSub, Int.reduceToNat, Nat.reduceBEq], by simp (disch := first | (simp only [go_sem, gb0, eq_self]; done) | omega | (simp only [gl1, gl2]; omega)) only [go_sem, ↓reduceIte, Nat.reduceEqDiff, Nat.reduceAdd, Nat.reduceMul, Nat.reduceSub, Int.reduceToNat, Nat.reduceBEq], by simp (disch := first | (simp only [go_sem, gb0, eq_self]; done) | omega | (simp only [gl1, gl2]; omega)) only [go_sem, ↓reduceIte, Nat.reduceEqDiff, Nat.reduceAdd, Nat.reduceMul, Nat.reduceSub, Int.reduceToNat, Nat.reduceBEq], by simp (disch := first | (simp only [go_sem, gb0, eq_self]; done) | omega | (simp only [gl1, gl2]; omega)) only [go_sem, ↓reduceIte, Nat.reduceEqDiff, Nat.reduceAdd, Nat.reduceMul, Nat.reduceSub, Int.reduceToNat, Nat.reduceBEq], by simp (disch := first | (simp only [go_sem, gb0, eq_self]; done) | omega | (simp only [gl1, gl2]; omega)) only [go_sem, ↓reduceIte, Nat.reduceEqDiff, Nat.reduceAdd, Nat.reduceMul, Nat.reduceSub, Int.reduceToNat, Nat.reduceBEq]; rfl, rfl, fun _ _ => rfl, by rw [fillR_zero]; exact bC, fun k hk => by omega⟩ ?_
    rintro i st g hi s21 ⟨s0, s1, s5, s19, s20, s6, gn, gk, gC, hnn⟩
    by_cases hlt : i < m
    case neg =>
      have hie : i = m := by omega
      subst hie
      simp (disch := first | (simp only [go_sem, gb0, eq_self]; done) | omega | (simp only [gl1, gl2]; omega)) only [go_sem, ↓reduceIte, Nat.reduceEqDiff, Nat.reduceAdd, Nat.reduceMul, Nat.reduceSub, Int.reduceToNat, Nat.reduceBEq, s0, s1, s5, s19, s20, s6, s21, hlt]
      exact ⟨rfl, gn, gk, gC, hnn⟩
    have gI := (gk id (Ne.symm hd)).trans bI
    have eI : (xs.flatMap (e1 I))[i]? = some (I (nth xs i)) := by rw [flat_get _ _ _ (by omega)]
    have bx := nums_b hb hl hlt
    have hlt' : (i : Int) < m := by omega
    have sb := sum_part_b (f := fun i => nth xs i) (B := 723394816) (by decide) (fun i hi => nums_b hb hl hi) i hi
    have sb2 := sum_part_b (f := fun i => nth xs i) (B := 723394816) (by decide) (fun i hi => nums_b hb hl hi) (i + 1) hlt
    by_cases hng : nth xs i < 0
    · have hok : okLab a m n xs den = false := by
        have : (List.range m).all (fun i => decide (0 ≤ nth xs i)) = false := by
          rw [List.all_eq_false]; exact ⟨i, List.mem_range.2 hlt, by simp; omega⟩
        rw [okLab, this]; rfl
      simp (disch := first | (simp only [go_sem, gb0, eq_self]; done) | omega | (simp only [gl1, gl2]; omega)) only [go_sem, ↓reduceIte, Nat.reduceEqDiff, Nat.reduceAdd, Nat.reduceMul, Nat.reduceSub, Int.reduceToNat, Nat.reduceBEq, s0, s1, s5, s19, s20, s6, s21, hlt, hlt', gI, eI, hng]
      exact ⟨by rw [hok], gn, gk, den, _, gC, fillR_len _ _ _ _, fun h => by rw [hok] at h; cases h⟩
    · have hi8 : i < (fillR 8 (labF a m xs den) false i).length := by rw [fillR_len]; omega
      have hi8' : (i : Int) < 8 := by omega
      have hf : labF a m xs den i = decide (nth xs i = 0) := by rw [labF, if_pos hlt]
      have hset : (fillR 8 (labF a m xs den) false i).set i (decide (nth xs i = 0)) = fillR 8 (labF a m xs den) false (i + 1) := by rw [← hf]; exact fillR_set (by omega)
      simp (disch := first | (simp only [go_sem, gb0, eq_self]; done) | omega | (simp only [gl1, gl2]; omega)) only [go_sem, ↓reduceIte, Nat.reduceEqDiff, Nat.reduceAdd, Nat.reduceMul, Nat.reduceSub, Int.reduceToNat, Nat.reduceBEq, s0, s1, s5, s19, s20, s6, s21, hlt, hlt', gI, eI, hng, gC, hi8, hi8', hset]
      rw [ForK_normal]
      refine ⟨hlt, by simp (disch := first | (simp only [go_sem, gb0, eq_self]; done) | omega | (simp only [gl1, gl2]; omega)) only [go_sem, ↓reduceIte, Nat.reduceEqDiff, Nat.reduceAdd, Nat.reduceMul, Nat.reduceSub, Int.reduceToNat, Nat.reduceBEq, s21], by simp (disch := first | (simp only [go_sem, gb0, eq_self]; done) | omega | (simp only [gl1, gl2]; omega)) only [go_sem, ↓reduceIte, Nat.reduceEqDiff, Nat.reduceAdd, Nat.reduceMul, Nat.reduceSub, Int.reduceToNat, Nat.reduceBEq, s0], by simp (disch := first | (simp only [go_sem, gb0, eq_self]; done) | omega | (simp only [gl1, gl2]; omega)) only [go_sem, ↓reduceIte, Nat.reduceEqDiff, Nat.reduceAdd, Nat.reduceMul, Nat.reduceSub, Int.reduceToNat, Nat.reduceBEq, s1], by simp (disch := first | (simp only [go_sem, gb0, eq_self]; done) | omega | (simp only [gl1, gl2]; omega)) only [go_sem, ↓reduceIte, Nat.reduceEqDiff, Nat.reduceAdd, Nat.reduceMul, Nat.reduceSub, Int.reduceToNat, Nat.reduceBEq, s5], by simp (disch := first | (simp only [go_sem, gb0, eq_self]; done) | omega | (simp only [gl1, gl2]; omega)) only [go_sem, ↓reduceIte, Nat.reduceEqDiff, Nat.reduceAdd, Nat.reduceMul, Nat.reduceSub, Int.reduceToNat, Nat.reduceBEq, s19], by simp (disch := first | (simp only [go_sem, gb0, eq_self]; done) | omega | (simp only [gl1, gl2]; omega)) only [go_sem, ↓reduceIte, Nat.reduceEqDiff, Nat.reduceAdd, Nat.reduceMul, Nat.reduceSub, Int.reduceToNat, Nat.reduceBEq, s20], ?_, gn, fun k hk => by simp [upd, Hp.put, Hp.alloc, hk]; exact gk k hk, by simp (disch := first | (simp only [go_sem, gb0, eq_self]; done) | omega | (simp only [gl1, gl2]; omega)) only [go_sem, ↓reduceIte, Nat.reduceEqDiff, Nat.reduceAdd, Nat.reduceMul, Nat.reduceSub, Int.reduceToNat, Nat.reduceBEq], fun k hk => ?_⟩
      · have hw : sumN (fun i => nth xs i) i + nth xs i = sumN (fun i => nth xs i) (i + 1) := rfl
        simp (disch := first | (simp only [go_sem, gb0, eq_self]; done) | omega | (simp only [gl1, gl2]; omega)) only [go_sem, ↓reduceIte, Nat.reduceEqDiff, Nat.reduceAdd, Nat.reduceMul, Nat.reduceSub, Int.reduceToNat, Nat.reduceBEq, s6, hw]
      · by_cases e : k = i
        · subst e; omega
        · exact hnn k (by omega)
  rintro st g ⟨s0, s1, s5, s6, gn, gk, gC, hnn⟩
  have hbs := sum_part_b (f := fun i => nth xs i) (B := 723394816) (by decide) (fun i hi => nums_b hb hl hi) m (Nat.le_refl _)
  simp (disch := first | (simp only [go_sem, gb0, eq_self]; done) | omega | (simp only [gl1, gl2]; omega)) only [go_sem, ↓reduceIte, Nat.reduceEqDiff, Nat.reduceAdd, Nat.reduceMul, Nat.reduceSub, Int.reduceToNat, Nat.reduceBEq, s0, s1, s5, s6, hl0]
  refine WP_cut (fun st g => st 0 = .ptr C 0 ∧ st 1 = LLI a ∧ st 5 = I m ∧ st 6 = I (sumC m xs) ∧ g.nx = h.nx ∧ (∀ k, k ≠ C → g.bl k = h.bl k) ∧ g.bl C = some (cbl (.sl id 0 m 1) den (labC a m n xs den)) ∧ ∀ j, j < n → gainC a m xs j ≤ den) ?_ ?_
  · refine WP_for 43 n (fun j st g => st 0 = .ptr C 0 ∧ st 1 = LLI a ∧ st 5 = I m ∧ st 6 = I (sumC m xs) ∧ st 42 = I n ∧ g.nx = h.nx ∧ (∀ k, k ≠ C → g.bl k = h.bl k) ∧ g.bl C = some (cbl (.sl id 0 m 1) den (fillR 8 (labF a m xs den) false (m + j))) ∧ ∀ k, k < j → gainC a m xs k ≤ den) (by simp (disch := first | (simp only [go_sem, gb0, eq_self]; done) | omega | (simp only [gl1, gl2]; omega)) only [go_sem, ↓reduceIte, Nat.reduceEqDiff, Nat.reduceAdd, Nat.reduceMul, Nat.reduceSub, Int.reduceToNat, Nat.reduceBEq]) ⟨by simp (disch := first | (simp only [go_sem, gb0, eq_self]; done) | omega | (simp only [gl1, gl2]; omega)) only [go_sem, ↓reduceIte, Nat.reduceEqDiff, Nat.reduceAdd, Nat.reduceMul, Nat.reduceSub, Int.reduceToNat, Nat.reduceBEq, s0, s1, s5, s6], by simp (disch := first | (simp only [go_sem, gb0, eq_self]; done) | omega | (simp only [gl1, gl2]; omega)) only [go_sem, ↓reduceIte, Nat.reduceEqDiff, Nat.reduceAdd, Nat.reduceMul, Nat.reduceSub, Int.reduceToNat, Nat.reduceBEq, s0, s1, s5, s6], by simp (disch := first | (simp only [go_sem, gb0, eq_self]; done) | omega | (simp only [gl1, gl2]; omega)) only [go_sem, ↓reduceIte, Nat.reduceEqDiff, Nat.reduceAdd, Nat.reduceMul, Nat.reduceSub, Int.reduceToNat, Nat.reduceBEq, s0, s1, s5, s6], by simp (disch := first | (simp only [go_sem, gb0, eq_self]; done) | omega | (simp only [gl1, gl2]; omega)) only [go_sem, ↓reduceIte, Nat.reduceEqDiff, Nat.reduceAdd, Nat.reduceMul, Nat.reduceSub, Int.reduceToNat, Nat.reduceBEq, s0, s1, s5, s6], by simp (disch := first | (simp only [go_sem, gb0, eq_self]; done) | omega | (simp only [gl1, gl2]; omega)) only [go_sem, ↓reduceIte, Nat.reduceEqDiff, Nat.reduceAdd, Nat.reduceMul, Nat.reduceSub, Int.reduceToNat, Nat.reduceBEq, s0, s1, s5, s6], gn, gk, gC, fun k hk => by omega⟩ ?_
    clear s0 s1 s5 s6 gC gk gn
    rintro j st g hj s43 ⟨s0, s1, s5, s6, s42, gn, gk, gC, hle⟩
    by_cases hlt : j < n
    case neg =>
      have hje : j = n := by omega
      subst hje
      simp (disch := first | (simp only [go_sem, gb0, eq_self]; done) | omega | (simp only [gl1, gl2]; omega)) only [go_sem, ↓reduceIte, Nat.reduceEqDiff, Nat.reduceAdd, Nat.reduceMul, Nat.reduceSub, Int.reduceToNat, Nat.reduceBEq, s0, s1, s5, s6, s42, s43, hlt]
      exact ⟨gn, gk, gC, hle⟩
    have hlt' : (j : Int) < n := by omega
    simp (disch := first | (simp only [go_sem, gb0, eq_self]; done) | omega | (simp only [gl1, gl2]; omega)) only [go_sem, ↓reduceIte, Nat.reduceEqDiff, Nat.reduceAdd, Nat.reduceMul, Nat.reduceSub, Int.reduceToNat, Nat.reduceBEq, s0, s1, s5, s6, s42, s43, hlt, hlt', gC]
    refine WP_cut (fun st g' => st 0 = .ptr C 0 ∧ st 1 = LLI a ∧ st 5 = I m ∧ st 6 = I (sumC m xs) ∧ st 42 = I n ∧ st 9 = I j ∧ st 43 = I j ∧ st 10 = I (gainC a m xs j) ∧ g' = g) ?_ ?_
    · refine WP_for 52 m (fun i st g' => st 0 = .ptr C 0 ∧ st 1 = LLI a ∧ st 5 = I m ∧ st 6 = I (sumC m xs) ∧ st 42 = I n ∧ st 9 = I j ∧ st 43 = I j ∧ st 50 = .sl id 0 m 1 ∧ st 51 = I m ∧ st 10 = I (sumN (fun i => nth xs i * PT a i j) i) ∧ g' = g) (by simp (disch := first | (simp only [go_sem, gb0, eq_self]; done) | omega | (simp only [gl1, gl2]; omega)) only [go_sem, ↓reduceIte, Nat.reduceEqDiff, Nat.reduceAdd, Nat.reduceMul, Nat.reduceSub, Int.reduceToNat, Nat.reduceBEq]) ⟨by simp (disch := first | (simp only [go_sem, gb0, eq_self]; done) | omega | (simp only [gl1, gl2]; omega)) only [go_sem, ↓reduceIte, Nat.reduceEqDiff, Nat.reduceAdd, Nat.reduceMul, Nat.reduceSub, Int.reduceToNat, Nat.reduceBEq, s0, s1, s5, s6, s42, s43], by simp (disch := first | (simp only [go_sem, gb0, eq_self]; done) | omega | (simp only [gl1, gl2]; omega)) only [go_sem, ↓reduceIte, Nat.reduceEqDiff, Nat.reduceAdd, Nat.reduceMul, Nat.reduceSub, Int.reduceToNat, Nat.reduceBEq, s0, s1, s5, s6, s42, s43], by simp (disch := first | (simp only [go_sem, gb0, eq_self]; done) | omega | (simp only [gl1, gl2]; omega)) only [go_sem, ↓reduceIte, Nat.reduceEqDiff, Nat.reduceAdd, Nat.reduceMul, Nat.reduceSub, Int.reduceToNat, Nat.reduceBEq, s0, s1, s5, s6, s42, s43], by simp (disch := first | (simp only [go_sem, gb0, eq_self]; done) | omega | (simp only [gl1, gl2]; omega)) only [go_sem, ↓reduceIte, Nat.reduceEqDiff, Nat.reduceAdd, Nat.reduceMul, Nat.reduceSub, Int.reduceToNat, Nat.reduceBEq, s0, s1, s5, s6, s42, s43], by simp (disch := first | (simp only [go_sem, gb0, eq_self]; done) | omega | (simp only [gl1, gl2]; omega)) only [go_sem, ↓reduceIte, Nat.reduceEqDiff, Nat.reduceAdd, Nat.reduceMul, Nat.reduceSub, Int.reduceToNat, Nat.reduceBEq, s0, s1, s5, s6, s42, s43], by simp (disch := first | (simp only [go_sem, gb0, eq_self]; done) | omega | (simp only [gl1, gl2]; omega)) only [go_sem, ↓reduceIte, Nat.reduceEqDiff, Nat.reduceAdd, Nat.reduceMul, Nat.reduceSub, Int.reduceToNat, Nat.reduceBEq, s0, s1, s5, s6, s42, s43], by simp (disch := first | (simp only [go_sem, gb0, eq_self]; done) | omega | (simp only [gl1, gl2]; omega)) only [go_sem, ↓reduceIte, Nat.reduceEqDiff, Nat.reduceAdd, Nat.reduceMul, Nat.reduceSub, Int.reduceToNat, Nat.reduceBEq, s0, s1, s5, s6, s42, s43], by simp (disch := first | (simp only [go_sem, gb0, eq_self]; done) | omega | (simp only [gl1, gl2]; omega)) only [go_sem, ↓reduceIte, Nat.reduceEqDiff, Nat.reduceAdd, Nat.reduceMul, Nat.reduceSub, Int.reduceToNat, Nat.reduceBEq, s0, s1, s5, s6, s42, s43], by simp (disch := first | (simp only [go_sem, gb0, eq_self]; done) | omega | (simp only [gl1, gl2]; omega)) only [go_sem, ↓reduceIte, Nat.reduceEqDiff, Nat.reduceAdd, Nat.reduceMul, Nat.reduceSub, Int.reduceToNat, Nat.reduceBEq, s0, s1, s5, s6, s42, s43], by simp (disch := first | (simp only [go_sem, gb0, eq_self]; done) | omega | (simp only [gl1, gl2]; omega)) only [go_sem, ↓reduceIte, Nat.reduceEqDiff, Nat.reduceAdd, Nat.reduceMul, Nat.reduceSub, Int.reduceToNat, Nat.reduceBEq]; rfl, rfl⟩ ?_
      clear s0 s1 s5 s6 s42 s43
      rintro i st g' hi s52 ⟨s0, s1, s5, s6, s42, s9, s43, s50, s51, s10, rfl⟩
      by_cases hlm : i < m
      case neg =>
        have hie : i = m := by omega
        subst hie
        simp (disch := first | (simp only [go_sem, gb0, eq_self]; done) | omega | (simp only [gl1, gl2]; omega)) only [go_sem, ↓reduceIte, Nat.reduceEqDiff, Nat.reduceAdd, Nat.reduceMul, Nat.reduceSub, Int.reduceToNat, Nat.reduceBEq, s0, s1, s5, s6, s42, s9, s43, s50, s51, s10, s52, hlm]
        rfl
      have hlm' : (i : Int) < m := by omega
      have gI := (gk id (Ne.symm hd)).trans bI
      have eI : (xs.flatMap (e1 I))[i]? = some (I (nth xs i)) := by rw [flat_get _ _ _ (by omega)]
      have bx := nums_b hb hl hlm
      have hli : i < a.length := by omega
      have hlj : j < (nth a i).length := by rw [T.row i hlm]; exact hlt
      have hlj' : (j : Int) < (nth a i).length := by omega
      have hli' : (i : Int) < a.length := by omega
      have hbd := T.bd i hlm j hlt
      have hpt : nth (nth a i) j + 21 = PT a i j := rfl
      have pb := PT_b T hlm hlt
      have pp := prod_b bx pb
      have sb := sum_part_b (f := fun i => nth xs i * PT a i j) (B := 29659187456) (by decide) (fun i hi => prod_b (nums_b hb hl hi) (PT_b T hi hlt)) i hi
      have sb2 := sum_part_b (f := fun i => nth xs i * PT a i j) (B := 29659187456) (by decide) (fun i hi => prod_b (nums_b hb hl hi) (PT_b T hi hlt)) (i + 1) hlm
      simp (disch := first | (simp only [go_sem, gb0, eq_self]; done) | omega | (simp only [gl1, gl2]; omega)) only [go_sem, ↓reduceIte, Nat.reduceEqDiff, Nat.reduceAdd, Nat.reduceMul, Nat.reduceSub, Int.reduceToNat, Nat.reduceBEq, s0, s1, s5, s6, s42, s9, s43, s50, s51, s10, s52, hlm, hlm', gI, eI, hli, hli', hlj, hlj', hpt]
      rw [ForK_normal]
      refine ⟨hlm, by simp (disch := first | (simp only [go_sem, gb0, eq_self]; done) | omega | (simp only [gl1, gl2]; omega)) only [go_sem, ↓reduceIte, Nat.reduceEqDiff, Nat.reduceAdd, Nat.reduceMul, Nat.reduceSub, Int.reduceToNat, Nat.reduceBEq, s52], by simp (disch := first | (simp only [go_sem, gb0, eq_self]; done) | omega | (simp only [gl1, gl2]; omega)) only [go_sem, ↓reduceIte, Nat.reduceEqDiff, Nat.reduceAdd, Nat.reduceMul, Nat.reduceSub, Int.reduceToNat, Nat.reduceBEq, s0], by simp (disch := first | (simp only [go_sem, gb0, eq_self]; done) | omega | (simp only [gl1, gl2]; omega)) only [go_sem, ↓reduceIte, Nat.reduceEqDiff, Nat.reduceAdd, Nat.reduceMul, Nat.reduceSub, Int.reduceToNat, Nat.reduceBEq, s1], by simp (disch := first | (simp only [go_sem, gb0, eq_self]; done) | omega | (simp only [gl1, gl2]; omega)) only [go_sem, ↓reduceIte, Nat.reduceEqDiff, Nat.reduceAdd, Nat.reduceMul, Nat.reduceSub, Int.reduceToNat, Nat.reduceBEq, s5], by simp (disch := first | (simp only [go_sem, gb0, eq_self]; done) | omega | (simp only [gl1, gl2]; omega)) only [go_sem, ↓reduceIte, Nat.reduceEqDiff, Nat.reduceAdd, Nat.reduceMul, Nat.reduceSub, Int.reduceToNat, Nat.reduceBEq, s6], by simp (disch := first | (simp only [go_sem, gb0, eq_self]; done) | omega | (simp only [gl1, gl2]; omega)) only [go_sem, ↓reduceIte, Nat.reduceEqDiff, Nat.reduceAdd, Nat.reduceMul, Nat.reduceSub, Int.reduceToNat, Nat.reduceBEq, s42], by simp (disch := first | (simp only [go_sem, gb0, eq_self]; done) | omega | (simp only [gl1, gl2]; omega)) only [go_sem, ↓reduceIte, Nat.reduceEqDiff, Nat.reduceAdd, Nat.reduceMul, Nat.reduceSub, Int.reduceToNat, Nat.reduceBEq, s9], by simp (disch := first | (simp only [go_sem, gb0, eq_self]; done) | omega | (simp only [gl1, gl2]; omega)) only [go_sem, ↓reduceIte, Nat.reduceEqDiff, Nat.reduceAdd, Nat.reduceMul, Nat.reduceSub, Int.reduceToNat, Nat.reduceBEq, s43], by simp (disch := first | (simp only [go_sem, gb0, eq_self]; done) | omega | (simp only [gl1, gl2]; omega)) only [go_sem, ↓reduceIte, Nat.reduceEqDiff, Nat.reduceAdd, Nat.reduceMul, Nat.reduceSub, Int.reduceToNat, Nat.reduceBEq, s50], by simp (disch := first | (simp only [go_sem, gb0, eq_self]; done) | omega | (simp only [gl1, gl2]; omega)) only [go_sem, ↓reduceIte, Nat.reduceEqDiff, Nat.reduceAdd, Nat.reduceMul, Nat.reduceSub, Int.reduceToNat, Nat.reduceBEq, s51], ?_, rfl⟩
      have hw : sumN (fun i => nth xs i * PT a i j) i + nth xs i * PT a i j = sumN (fun i => nth xs i * PT a i j) (i + 1) := rfl
      simp (disch := first | (simp only [go_sem, gb0, eq_self]; done) | omega | (simp only [gl1, gl2]; omega)) only [go_sem, ↓reduceIte, Nat.reduceEqDiff, Nat.reduceAdd, Nat.reduceMul, Nat.reduceSub, Int.reduceToNat, Nat.reduceBEq, s10, hw]
    clear s0 s1 s5 s6 s42 s43
    rintro st g' ⟨s0, s1, s5, s6, s42, s9, s43, s10, rfl⟩
    by_cases hgt : gainC a m xs j ≤ den
    case neg =>
      have hgt' : den < gainC a m xs j := by omega
      have hok : okLab a m n xs den = false := by
        have : (List.range n).all (fun j => decide (gainC a m xs j ≤ den)) = false := by
          rw [List.all_eq_false]; exact ⟨j, List.mem_range.2 hlt, by simp; omega⟩
        rw [okLab, this]; simp
      simp (disch := first | (simp only [go_sem, gb0, eq_self]; done) | omega | (simp only [gl1, gl2]; omega)) only [go_sem, ↓reduceIte, Nat.reduceEqDiff, Nat.reduceAdd, Nat.reduceMul, Nat.reduceSub, Int.reduceToNat, Nat.reduceBEq, s0, s1, s5, s6, s42, s9, s43, s10, gC, hgt']
      exact ⟨by rw [hok], gn, gk, den, _, rfl, fillR_len _ _ _ _, fun h => by rw [hok] at h; cases h⟩
    have hgt' : ¬ den < gainC a m xs j := by omega
    have lC : C < g'.nx := by omega
    have hi8 : m + j < (fillR 8 (labF a m xs den) false (m + j)).length := by rw [fillR_len]; omega
    have hi8' : (m : Int) + j < 8 := by omega
    have htn : ((m : Int) + (j : Int)).toNat = m + j := by omega
    have hf : labF a m xs den (m + j) = decide (gainC a m xs j = den) := by rw [labF, if_neg (by omega), show m + j - m = j by omega]
    have hset : (fillR 8 (labF a m xs den) false (m + j)).set (m + j) (decide (gainC a m xs j = den)) = fillR 8 (labF a m xs den) false (m + (j + 1)) := by rw [← hf]; exact fillR_set (by omega)
    simp (disch := first | (simp only [go_sem, gb0, eq_self]; done) | omega | (simp only [gl1, gl2]; omega)) only [go_sem, ↓reduceIte, Nat.reduceEqDiff, Nat.reduceAdd, Nat.reduceMul, Nat.reduceSub, Int.reduceToNat, Nat.reduceBEq, s0, s1, s5, s6, s42, s9, s43, s10, gC, hgt', hi8, hi8', hset]
    rw [ForK_normal]
    refine ⟨hlt, by simp (disch := first | (simp only [go_sem, gb0, eq_self]; done) | omega | (simp only [gl1, gl2]; omega)) only [go_sem, ↓reduceIte, Nat.reduceEqDiff, Nat.reduceAdd, Nat.reduceMul, Nat.reduceSub, Int.reduceToNat, Nat.reduceBEq, s43], by simp (disch := first | (simp only [go_sem, gb0, eq_self]; done) | omega | (simp only [gl1, gl2]; omega)) only [go_sem, ↓reduceIte, Nat.reduceEqDiff, Nat.reduceAdd, Nat.reduceMul, Nat.reduceSub, Int.reduceToNat, Nat.reduceBEq, s0], by simp (disch := first | (simp only [go_sem, gb0, eq_self]; done) | omega | (simp only [gl1, gl2]; omega)) only [go_sem, ↓reduceIte, Nat.reduceEqDiff, Nat.reduceAdd, Nat.reduceMul, Nat.reduceSub, Int.reduceToNat, Nat.reduceBEq, s1], by simp (disch := first | (simp only [go_sem, gb0, eq_self]; done) | omega | (simp only [gl1, gl2]; omega)) only [go_sem, ↓reduceIte, Nat.reduceEqDiff, Nat.reduceAdd, Nat.reduceMul, Nat.reduceSub, Int.reduceToNat, Nat.reduceBEq, s5], by simp (disch := first | (simp only [go_sem, gb0, eq_self]; done) | omega | (simp only [gl1, gl2]; omega)) only [go_sem, ↓reduceIte, Nat.reduceEqDiff, Nat.reduceAdd, Nat.reduceMul, Nat.reduceSub, Int.reduceToNat, Nat.reduceBEq, s6], by simp (disch := first | (simp only [go_sem, gb0, eq_self]; done) | omega | (simp only [gl1, gl2]; omega)) only [go_sem, ↓reduceIte, Nat.reduceEqDiff, Nat.reduceAdd, Nat.reduceMul, Nat.reduceSub, Int.reduceToNat, Nat.reduceBEq, s42], gn, fun k hk => by simp [upd, Hp.put, Hp.alloc, hk]; exact gk k hk, by simp (disch := first | (simp only [go_sem, gb0, eq_self]; done) | omega | (simp only [gl1, gl2]; omega)) only [go_sem, ↓reduceIte, Nat.reduceEqDiff, Nat.reduceAdd, Nat.reduceMul, Nat.reduceSub, Int.reduceToNat, Nat.reduceBEq, htn, hset], fun k hk => ?_⟩
    by_cases e : k = j
    · subst e; omega
    · exact hle k (by omega)
  clear s0 s1 s5 s6 gC gk gn
  rintro st g ⟨s0, s1, s5, s6, gn, gk, gC, hle⟩
  have hst : storeC g C 1 1 (some (cbl (.sl id 0 m 1) den (labC a m n xs den))) [I (sumC m xs)] = some (.skp, g.put C (some (cbl (.sl id 0 m 1) (sumC m xs) (labC a m n xs den)))) := by
    rw [storeC_one C 1 false _ (I (sumC m xs)) rfl (by simp only [List.length_cons]; omega)]; rfl
  have hok : okLab a m n xs den = decide (0 < sumC m xs) := by
    have h1 : (List.range m).all (fun i => decide (0 ≤ nth xs i)) = true := by
      rw [List.all_eq_true]; intro i hi; exact decide_eq_true (hnn i (List.mem_range.1 hi))
    have h2 : (List.range n).all (fun j => decide (gainC a m xs j ≤ den)) = true := by
      rw [List.all_eq_true]; intro i hi; exact decide_eq_true (hle i (List.mem_range.1 hi))
    rw [okLab, h1, h2]; rfl
  simp (disch := first | (simp only [go_sem, gb0, eq_self]; done) | omega | (simp only [gl1, gl2]; omega)) only [go_sem, ↓reduceIte, Nat.reduceEqDiff, Nat.reduceAdd, Nat.reduceMul, Nat.reduceSub, Int.reduceToNat, Nat.reduceBEq, s0, s1, s5, s6, gC, hst]
  exact ⟨by rw [hok], gn, fun k hk => by simp [upd, Hp.put, Hp.alloc, hk]; exact gk k hk, _, labC a m n xs den, by simp (disch := first | (simp only [go_sem, gb0, eq_self]; done) | omega | (simp only [gl1, gl2]; omega)) only [go_sem, ↓reduceIte, Nat.reduceEqDiff, Nat.reduceAdd, Nat.reduceMul, Nat.reduceSub, Int.reduceToNat, Nat.reduceBEq], fillR_len _ _ _ _, fun _ => ⟨rfl, rfl⟩⟩
end Go.Proofs.Ytcdpkgmkckfonaa

set_option linter.unusedVariables false
set_option linter.unusedSimpArgs false
set_option maxRecDepth 10000
namespace Go.Proofs.Ytcdpkgmkckfonaa
open Go Go.Am

variable {h h' : Hp} {K : AV → Hp → Prop}

theorem export_seal (t : TypeId) {i o n s : Nat} {r : AV} {h h2 : Hp} (hs : sealA h (.sl i o n s) = some (r, h2)) (hn : isTup r = false) : exportR Try.prog false false [t] h (.sl i o n s) = some r := by
  show (exportV Try.prog false false t h [] (.sl i o n s)).bind _ = _
  rw [exportV_plain, hs]
  simp only [Option.map_some, Option.bind_some, hn]
  rfl
/-- The first k numbers of a column. -/
def colL (a : List (List Int)) (j k : Nat) : List Int := (List.range k).map fun i => nth (nth a i) j
def turnL (a : List (List Int)) (m n : Nat) : List (List Int) := (List.range n).map fun j => colL a j m
/-- The columns while they are filled. -/
def tuR (a : List (List Int)) (n i j : Nat) : List (List Int) := (List.range n).map fun j' => colL a j' (if j' < j then i + 1 else i)
theorem colL_len (a : List (List Int)) (j k : Nat) : (colL a j k).length = k := by simp [colL]
theorem tuR_len (a : List (List Int)) (n i j : Nat) : (tuR a n i j).length = n := by simp [tuR]
theorem tuR_nth {a : List (List Int)} {n i j k : Nat} (hk : k < n) : nth (tuR a n i j) k = colL a k (if k < j then i + 1 else i) := nth_map_range _ _ _ hk
theorem tuR_next (a : List (List Int)) (n i : Nat) : tuR a n i n = tuR a n (i + 1) 0 := by
  unfold tuR
  refine List.map_congr_left fun k hk => ?_
  rw [if_pos (List.mem_range.1 hk), if_neg (by omega)]
theorem tuR_set {a : List (List Int)} {n i j : Nat} (hj : j < n) : (tuR a n i j).set j (colL a j i ++ [nth (nth a i) j]) = tuR a n i (j + 1) := by
  refine list_ext_nth (by simp [tuR_len]) fun k hk => ?_
  rw [List.length_set, tuR_len] at hk
  rw [nth_set _ _ _ _ (by rw [tuR_len]; exact hj), tuR_nth hk, tuR_nth hk]
  by_cases h : j = k
  · subst h
    rw [if_pos rfl, if_pos (by omega), colL, colL, rows_snoc]
  · rw [if_neg h]
    by_cases h2 : k < j
    · rw [if_pos h2, if_pos (by omega)]
    · rw [if_neg h2, if_neg (by omega)]
theorem tuR_zero (a : List (List Int)) (n : Nat) : tuR a n 0 0 = List.replicate n [] := by
  refine list_ext_nth (by simp [tuR_len]) fun i hi => ?_
  rw [tuR_len] at hi
  rw [tuR_nth hi, nth_replicate _ _ _ hi, if_neg (by omega)]; rfl
theorem tuR_full (a : List (List Int)) (m n : Nat) : tuR a n m 0 = turnL a m n := by
  unfold tuR turnL
  refine List.map_congr_left fun i hi => ?_
  rw [if_neg (by omega)]
theorem turnL_nth {a : List (List Int)} {m n i j : Nat} (hi : i < m) (hj : j < n) : nth (nth (turnL a m n) j) i = nth (nth a i) j := by
  rw [turnL, nth_map_range _ _ _ hj, colL, nth_map_range _ _ _ hi]
theorem turnL_Tb {a : List (List Int)} {m n : Nat} (T : Tb a m n) : Tb (turnL a m n) n m := by
  refine ⟨T.n1, T.n4, T.m1, T.m4, by simp [turnL], fun i hi => ?_, fun i hi j hj => ?_⟩
  · rw [turnL, nth_map_range _ _ _ hi, colL_len]
  · rw [turnL_nth hj hi]; exact T.bd j hj i hi

theorem f53_con {a : List (List Int)} {m n : Nat} (T : Tb a m n) : Con Try.prog cfg 53 [LLI a] (LLI (turnL a m n)) := by
  have hm1 := T.m1
  have hm4 := T.m4
  have hn1 := T.n1
  have hn4 := T.n4
  have hl := T.len
  have hr0 := T.row 0 (by omega)
  have h0 : 0 < a.length := by omega
  have hmk := makeB_sl (P := Try.prog) (h := Hp.empty) 31 (n : Int) isz31 ibytes31 izero31 (by omega) (by omega)
  refine Con_intro Try.func53 rfl ok53 (Nat.le_of_ble_eq_true rfl) rfl ?_
  simp only [Try.f53, Option.getD_some, initSt1]
  simp (disch := first | (simp only [go_sem, gb0, eq_self]; done) | omega | (simp only [gl1, gl2]; omega)) only [go_sem, ↓reduceIte, Nat.reduceEqDiff, Nat.reduceAdd, Nat.reduceMul, Nat.reduceSub, Int.reduceToNat, Nat.reduceBEq, hl, hr0, h0, hm1, hmk]
  refine WP_for 15 m (fun i st h => st 3 = .sl 0 0 n 1 ∧ st 13 = LLI a ∧ st 14 = I m ∧ 1 ≤ h.nx ∧ ∃ flat, h.bl 0 = some (.cells false true flat) ∧ RowsAt (e1 I) 1 h flat (tuR a n i 0) ∧ ∀ (j id off n s : Nat), flat[j]? = some (AV.sl id off n s) → id ≠ 0)
    (by simp (disch := first | (simp only [go_sem, gb0, eq_self]; done) | omega | (simp only [gl1, gl2]; omega)) only [go_sem, ↓reduceIte, Nat.reduceEqDiff, Nat.reduceAdd, Nat.reduceMul, Nat.reduceSub, Int.reduceToNat, Nat.reduceBEq]) ⟨by simp (disch := first | (simp only [go_sem, gb0, eq_self]; done) | omega | (simp only [gl1, gl2]; omega)) only [go_sem, ↓reduceIte, Nat.reduceEqDiff, Nat.reduceAdd, Nat.reduceMul, Nat.reduceSub, Int.reduceToNat, Nat.reduceBEq], by simp (disch := first | (simp only [go_sem, gb0, eq_self]; done) | omega | (simp only [gl1, gl2]; omega)) only [go_sem, ↓reduceIte, Nat.reduceEqDiff, Nat.reduceAdd, Nat.reduceMul, Nat.reduceSub, Int.reduceToNat, Nat.reduceBEq], by simp (disch := first | (simp only [go_sem, gb0, eq_self]; done) | omega | (simp only [gl1, gl2]; omega)) only [go_sem, ↓reduceIte, Nat.reduceEqDiff, Nat.reduceAdd, Nat.reduceMul, Nat.reduceSub, Int.reduceToNat, Nat.reduceBEq], by simp (disch := first | (simp only [go_sem, gb0, eq_self]; done) | omega | (simp only [gl1, gl2]; omega)) only [go_sem, ↓reduceIte, Nat.reduceEqDiff, Nat.reduceAdd, Nat.reduceMul, Nat.reduceSub, Int.reduceToNat, Nat.reduceBEq, Nat.le_refl], _, by simp (disch := first | (simp only [go_sem, gb0, eq_self]; done) | omega | (simp only [gl1, gl2]; omega)) only [go_sem, ↓reduceIte, Nat.reduceEqDiff, Nat.reduceAdd, Nat.reduceMul, Nat.reduceSub, Int.reduceToNat, Nat.reduceBEq]; rfl, by rw [tuR_zero]; exact RowsAt.nils _, ?_⟩ ?_
  · intro j id off n s hj
    rw [List.getElem?_replicate] at hj
    split at hj <;> cases hj
  rintro i st h hi s15 ⟨s3, s13, s14, hnx, flat, b0, hrows, hne0⟩
  by_cases hlt : i < m
  case neg =>
    have hke : i = m := by omega
    subst hke
    rw [tuR_full] at hrows
    have hcl : (turnL a i n).length = n := by simp [turnL]
    have hpu : AV.pureL flat = false := by
      have h0 : 0 < flat.length := by rw [hrows.len, hcl]; omega
      have o := hrows.own 0 _ (List.getElem?_eq_getElem h0)
      have hn0 : nth (turnL a i n) 0 = colL a 0 i := nth_map_range _ _ _ (by omega)
      obtain ⟨id, q, _⟩ := o.sl (by rw [hn0, colL_len]; omega)
      cases hfl : flat with
      | nil => rw [hfl] at h0; cases h0
      | cons w ws =>
        simp only [hfl, List.getElem_cons_zero] at q
        rw [q]; rfl
    obtain ⟨h2, z1, _⟩ := sealA_rows hrows 0 n false true b0 hcl.symm hpu hne0
    simp (disch := first | (simp only [go_sem, gb0, eq_self]; done) | omega | (simp only [gl1, gl2]; omega)) only [go_sem, ↓reduceIte, Nat.reduceEqDiff, Nat.reduceAdd, Nat.reduceMul, Nat.reduceSub, Int.reduceToNat, Nat.reduceBEq, s3, s13, s14, s15, hlt]
    exact export_seal 22 z1 rfl
  have hri := T.row i hlt
  have hia : i < a.length := by omega
  simp (disch := first | (simp only [go_sem, gb0, eq_self]; done) | omega | (simp only [gl1, gl2]; omega)) only [go_sem, ↓reduceIte, Nat.reduceEqDiff, Nat.reduceAdd, Nat.reduceMul, Nat.reduceSub, Int.reduceToNat, Nat.reduceBEq, s3, s13, s14, s15, hlt, hl, hri, hia]
  refine WP_for 21 n (fun j st h => st 3 = .sl 0 0 n 1 ∧ st 13 = LLI a ∧ st 14 = I m ∧ st 15 = I i ∧ st 19 = LI (nth a i) ∧ st 20 = I n ∧ 1 ≤ h.nx ∧ ∃ flat, h.bl 0 = some (.cells false true flat) ∧ RowsAt (e1 I) 1 h flat (tuR a n i j) ∧ ∀ (j id off n s : Nat), flat[j]? = some (AV.sl id off n s) → id ≠ 0)
    (by simp (disch := first | (simp only [go_sem, gb0, eq_self]; done) | omega | (simp only [gl1, gl2]; omega)) only [go_sem, ↓reduceIte, Nat.reduceEqDiff, Nat.reduceAdd, Nat.reduceMul, Nat.reduceSub, Int.reduceToNat, Nat.reduceBEq]) ⟨by simp (disch := first | (simp only [go_sem, gb0, eq_self]; done) | omega | (simp only [gl1, gl2]; omega)) only [go_sem, ↓reduceIte, Nat.reduceEqDiff, Nat.reduceAdd, Nat.reduceMul, Nat.reduceSub, Int.reduceToNat, Nat.reduceBEq, s3, s13, s14, s15], by simp (disch := first | (simp only [go_sem, gb0, eq_self]; done) | omega | (simp only [gl1, gl2]; omega)) only [go_sem, ↓reduceIte, Nat.reduceEqDiff, Nat.reduceAdd, Nat.reduceMul, Nat.reduceSub, Int.reduceToNat, Nat.reduceBEq, s3, s13, s14, s15], by simp (disch := first | (simp only [go_sem, gb0, eq_self]; done) | omega | (simp only [gl1, gl2]; omega)) only [go_sem, ↓reduceIte, Nat.reduceEqDiff, Nat.reduceAdd, Nat.reduceMul, Nat.reduceSub, Int.reduceToNat, Nat.reduceBEq, s3, s13, s14, s15], by simp (disch := first | (simp only [go_sem, gb0, eq_self]; done) | omega | (simp only [gl1, gl2]; omega)) only [go_sem, ↓reduceIte, Nat.reduceEqDiff, Nat.reduceAdd, Nat.reduceMul, Nat.reduceSub, Int.reduceToNat, Nat.reduceBEq, s3, s13, s14, s15], by simp (disch := first | (simp only [go_sem, gb0, eq_self]; done) | omega | (simp only [gl1, gl2]; omega)) only [go_sem, ↓reduceIte, Nat.reduceEqDiff, Nat.reduceAdd, Nat.reduceMul, Nat.reduceSub, Int.reduceToNat, Nat.reduceBEq, s3, s13, s14, s15], by simp (disch := first | (simp only [go_sem, gb0, eq_self]; done) | omega | (simp only [gl1, gl2]; omega)) only [go_sem, ↓reduceIte, Nat.reduceEqDiff, Nat.reduceAdd, Nat.reduceMul, Nat.reduceSub, Int.reduceToNat, Nat.reduceBEq, s3, s13, s14, s15], hnx, flat, by simp (disch := first | (simp only [go_sem, gb0, eq_self]; done) | omega | (simp only [gl1, gl2]; omega)) only [go_sem, ↓reduceIte, Nat.reduceEqDiff, Nat.reduceAdd, Nat.reduceMul, Nat.reduceSub, Int.reduceToNat, Nat.reduceBEq, b0], hrows, hne0⟩ ?_
  rintro j st h hj s21 ⟨s3, s13, s14, s15, s19, s20, hnx, flat, b0, hrows, hne0⟩
  by_cases hjl : j < n
  case neg =>
    have hje : j = n := by omega
    subst hje
    simp (disch := first | (simp only [go_sem, gb0, eq_self]; done) | omega | (simp only [gl1, gl2]; omega)) only [go_sem, ↓reduceIte, Nat.reduceEqDiff, Nat.reduceAdd, Nat.reduceMul, Nat.reduceSub, Int.reduceToNat, Nat.reduceBEq, s3, s13, s14, s15, s19, s20, s21, hjl]
    rw [ForK_normal]
    exact ⟨hlt, by simp (disch := first | (simp only [go_sem, gb0, eq_self]; done) | omega | (simp only [gl1, gl2]; omega)) only [go_sem, ↓reduceIte, Nat.reduceEqDiff, Nat.reduceAdd, Nat.reduceMul, Nat.reduceSub, Int.reduceToNat, Nat.reduceBEq, s15], by simp (disch := first | (simp only [go_sem, gb0, eq_self]; done) | omega | (simp only [gl1, gl2]; omega)) only [go_sem, ↓reduceIte, Nat.reduceEqDiff, Nat.reduceAdd, Nat.reduceMul, Nat.reduceSub, Int.reduceToNat, Nat.reduceBEq, s3], by simp (disch := first | (simp only [go_sem, gb0, eq_self]; done) | omega | (simp only [gl1, gl2]; omega)) only [go_sem, ↓reduceIte, Nat.reduceEqDiff, Nat.reduceAdd, Nat.reduceMul, Nat.reduceSub, Int.reduceToNat, Nat.reduceBEq, s13], by simp (disch := first | (simp only [go_sem, gb0, eq_self]; done) | omega | (simp only [gl1, gl2]; omega)) only [go_sem, ↓reduceIte, Nat.reduceEqDiff, Nat.reduceAdd, Nat.reduceMul, Nat.reduceSub, Int.reduceToNat, Nat.reduceBEq, s14], hnx, flat, b0, by rw [← tuR_next]; exact hrows, hne0⟩
  have hfll : flat.length = n := by rw [hrows.len, tuR_len]
  obtain ⟨v, hv⟩ : ∃ v, flat[j]? = some v := ⟨_, List.getElem?_eq_getElem (by omega)⟩
  have how := hrows.own j v hv
  rw [tuR_nth hjl, if_neg (by omega)] at how
  have hjr : j < (nth a i).length := by omega
  have hbs := fun h : Hp => bsB_one (P := Try.prog) (h := h) 3 (I (nth (nth a i) j)) (I (nth (nth a i) j)) (I 0) h isz3 izero3 rfl rfl rfl rfl rfl rfl rfl
  have happ := app_one (P := Try.prog) how 3 8 (I 0) (nth (nth a i) j) isz3 ibytes3 izero3 rfl (by rw [colL_len]; omega) (by rw [colL_len]; omega)
  have c0 : (appH h v ((colL a j i ++ [nth (nth a i) j]).flatMap (e1 I))).bl 0 = some (.cells false true flat) := by
    rw [appH_bl _ _ _ _ (by omega) (fun id off n s e => by subst e; exact (hne0 j id off n s hv).symm)]; exact b0
  have hstv : ∀ (h : Hp) (id o n s : Nat), storeC h 0 j 1 (some (.cells false true flat)) [.sl id o n s] = some (.skp, h.put 0 (some (.cells false true (flat.set j (.sl id o n s))))) := fun h id o n s => storeC_one 0 j true flat _ rfl (by omega)
  have hjn : (j : Int) < n := by omega
  simp (disch := first | (simp only [go_sem, gb0, eq_self]; done) | omega | (simp only [gl1, gl2]; omega)) only [go_sem, ↓reduceIte, Nat.reduceEqDiff, Nat.reduceAdd, Nat.reduceMul, Nat.reduceSub, Int.reduceToNat, Nat.reduceBEq, s3, s13, s14, s15, s19, s20, s21, hjl, hjn, hjr, hri, b0, hv, hbs, happ, c0, hstv, appV, hfll]
  rw [ForK_normal]
  have hrows2 := hrows.app hv (colL a j i ++ [nth (nth a i) j]) 0 (.cells false true (flat.set j (appV h (colL a j i ++ [nth (nth a i) j]).length 1))) hne0 (by omega)
  rw [tuR_set hjl] at hrows2
  unfold appV at hrows2
  refine ⟨hjl, by simp (disch := first | (simp only [go_sem, gb0, eq_self]; done) | omega | (simp only [gl1, gl2]; omega)) only [go_sem, ↓reduceIte, Nat.reduceEqDiff, Nat.reduceAdd, Nat.reduceMul, Nat.reduceSub, Int.reduceToNat, Nat.reduceBEq, s21], by simp (disch := first | (simp only [go_sem, gb0, eq_self]; done) | omega | (simp only [gl1, gl2]; omega)) only [go_sem, ↓reduceIte, Nat.reduceEqDiff, Nat.reduceAdd, Nat.reduceMul, Nat.reduceSub, Int.reduceToNat, Nat.reduceBEq, s3], by simp (disch := first | (simp only [go_sem, gb0, eq_self]; done) | omega | (simp only [gl1, gl2]; omega)) only [go_sem, ↓reduceIte, Nat.reduceEqDiff, Nat.reduceAdd, Nat.reduceMul, Nat.reduceSub, Int.reduceToNat, Nat.reduceBEq, s13], by simp (disch := first | (simp only [go_sem, gb0, eq_self]; done) | omega | (simp only [gl1, gl2]; omega)) only [go_sem, ↓reduceIte, Nat.reduceEqDiff, Nat.reduceAdd, Nat.reduceMul, Nat.reduceSub, Int.reduceToNat, Nat.reduceBEq, s14], by simp (disch := first | (simp only [go_sem, gb0, eq_self]; done) | omega | (simp only [gl1, gl2]; omega)) only [go_sem, ↓reduceIte, Nat.reduceEqDiff, Nat.reduceAdd, Nat.reduceMul, Nat.reduceSub, Int.reduceToNat, Nat.reduceBEq, s15], by simp (disch := first | (simp only [go_sem, gb0, eq_self]; done) | omega | (simp only [gl1, gl2]; omega)) only [go_sem, ↓reduceIte, Nat.reduceEqDiff, Nat.reduceAdd, Nat.reduceMul, Nat.reduceSub, Int.reduceToNat, Nat.reduceBEq, s19], by simp (disch := first | (simp only [go_sem, gb0, eq_self]; done) | omega | (simp only [gl1, gl2]; omega)) only [go_sem, ↓reduceIte, Nat.reduceEqDiff, Nat.reduceAdd, Nat.reduceMul, Nat.reduceSub, Int.reduceToNat, Nat.reduceBEq, s20], by rw [put_nx, appH_nx]; omega, _, by simp (disch := first | (simp only [go_sem, gb0, eq_self]; done) | omega | (simp only [gl1, gl2]; omega)) only [go_sem, ↓reduceIte, Nat.reduceEqDiff, Nat.reduceAdd, Nat.reduceMul, Nat.reduceSub, Int.reduceToNat, Nat.reduceBEq], hrows2, ?_⟩
  intro k id off n' s hi
  rw [List.getElem?_set] at hi
  split at hi
  · split at hi
    · cases hi; omega
    · cases hi
  · exact hne0 k id off n' s hi
theorem k53 {a : List (List Int)} {m n : Nat} (T : Tb a m n) : ConW Try.prog cfg 53 h (some ([LLI a], h')) K = K (LLI (turnL a m n)) h' := by
  rw [ConW_any (f53_con T) rfl]; rfl

/-! ### negative -/
end Go.Proofs.Ytcdpkgmkckfonaa

set_option linter.unusedVariables false
set_option linter.unusedSimpArgs false
set_option maxRecDepth 10000
namespace Go.Proofs.Ytcdpkgmkckfonaa
open Go Go.Am

variable {h h' : Hp} {K : AV → Hp → Prop}

def idxF (p : Int → Bool) (l : List Int) : Int := match l.findIdx? p with | some i => i | none => -1
theorem idxF_ge (p : Int → Bool) (l : List Int) : decide (0 ≤ idxF p l) = l.any p := by
  unfold idxF
  cases hi : l.findIdx? p with
  | none =>
    have : l.any p = false := by
      rw [List.any_eq_false]
      exact fun x hx => by simpa using (List.findIdx?_eq_none_iff.1 hi) x hx
    rw [this]; rfl
  | some i =>
    obtain ⟨h1, h2, _⟩ := List.findIdx?_eq_some_iff_getElem.1 hi
    rw [List.any_eq_true.2 ⟨_, List.getElem_mem h1, h2⟩]
    exact decide_eq_true (Int.natCast_nonneg i)
theorem idxF_at {p : Int → Bool} {l : List Int} {i : Nat} (hi : i < l.length) (hp : p (nth l i) = true) (hn : ∀ k, k < i → p (nth l k) = false) : idxF p l = i := by
  have : l.findIdx? p = some i := by
    rw [List.findIdx?_eq_some_iff_getElem]
    refine ⟨hi, by rw [← nth_getElem hi]; exact hp, fun j hj => ?_⟩
    rw [← nth_getElem (Nat.lt_trans hj hi), hn j hj]; decide
  rw [idxF, this]
theorem idxF_no {p : Int → Bool} {l : List Int} (hn : ∀ k, k < l.length → p (nth l k) = false) : idxF p l = -1 := by
  have : l.findIdx? p = none := by
    rw [List.findIdx?_eq_none_iff]
    intro x hx
    obtain ⟨k, hk, rfl⟩ := List.getElem_of_mem hx
    rw [← nth_getElem hk]; exact hn k hk
  rw [idxF, this]
theorem all_nthI {α : Type} [Inhabited α] {p : α → Bool} {xs : List α} (h : ∀ i, i < xs.length → p (nth xs i) = true) : xs.all p = true := by
  refine List.all_eq_true.2 fun x hx => ?_
  obtain ⟨i, hi, rfl⟩ := List.getElem_of_mem hx
  rw [← nth_getElem hi]; exact h i hi
theorem all_no {α : Type} [Inhabited α] {p : α → Bool} {xs : List α} {i : Nat} (hi : i < xs.length) (h : p (nth xs i) = false) : xs.all p = false := by
  rw [List.all_eq_false]
  exact ⟨nth xs i, nth_mem hi, by rw [h]; decide⟩

theorem f76_con {g : FuncId} {caps : List AV} (hsh : cfg.shared g = false) (hse : ∀ h, sealArgs h caps = some (caps, h)) (p : Int → Bool) (l : List Int) (hl : l.length ≤ maxLen) (hp : ∀ x ∈ l, Con Try.prog cfg g (I x :: caps) (.bool (p x))) :
    Con Try.prog cfg 76 [LI l, .fn g caps] (I (idxF p l)) := by
  have ml : maxLen = 9223372036854775807 := by decide
  refine Con_intro Try.func76 rfl ok76 (Nat.le_of_ble_eq_true rfl) rfl ?_
  simp only [Try.f76, Option.getD_some, initSt2]
  simp (disch := first | (simp only [go_sem, gb0, eq_self]; done) | omega | (simp only [gl1, gl2]; omega)) only [go_sem, ↓reduceIte, Nat.reduceEqDiff, Nat.reduceAdd, Nat.reduceMul, Nat.reduceSub, Int.reduceToNat, Nat.reduceBEq]
  refine WP_for 8 l.length (fun j st h => st 0 = LI l ∧ st 1 = .fn g caps ∧ st 7 = I l.length ∧ ∀ k, k < j → p (nth l k) = false) (by simp (disch := first | (simp only [go_sem, gb0, eq_self]; done) | omega | (simp only [gl1, gl2]; omega)) only [go_sem, ↓reduceIte, Nat.reduceEqDiff, Nat.reduceAdd, Nat.reduceMul, Nat.reduceSub, Int.reduceToNat, Nat.reduceBEq]) ⟨by simp (disch := first | (simp only [go_sem, gb0, eq_self]; done) | omega | (simp only [gl1, gl2]; omega)) only [go_sem, ↓reduceIte, Nat.reduceEqDiff, Nat.reduceAdd, Nat.reduceMul, Nat.reduceSub, Int.reduceToNat, Nat.reduceBEq], by simp (disch := first | (simp only [go_sem, gb0, eq_self]; done) | omega | (simp only [gl1, gl2]; omega)) only [go_sem, ↓reduceIte, Nat.reduceEqDiff, Nat.reduceAdd, Nat.reduceMul, Nat.reduceSub, Int.reduceToNat, Nat.reduceBEq], by simp (disch := first | (simp only [go_sem, gb0, eq_self]; done) | omega | (simp only [gl1, gl2]; omega)) only [go_sem, ↓reduceIte, Nat.reduceEqDiff, Nat.reduceAdd, Nat.reduceMul, Nat.reduceSub, Int.reduceToNat, Nat.reduceBEq], fun k hk => by omega⟩ ?_
  rintro j st h hj s8 ⟨s0, s1, s7, hn⟩
  by_cases hlt : j < l.length
  case neg =>
    have : idxF p l = -1 := idxF_no fun k hk => hn k (by omega)
    rw [this]
    simp (disch := first | (simp only [go_sem, gb0, eq_self]; done) | omega | (simp only [gl1, gl2]; omega)) only [go_sem, ↓reduceIte, Nat.reduceEqDiff, Nat.reduceAdd, Nat.reduceMul, Nat.reduceSub, Int.reduceToNat, Nat.reduceBEq, s0, s1, s7, s8, hlt]
  have kg := fun h h' K => ConW_num (h := h) (h' := h') (K := K) (hp _ (nth_mem hlt)) rfl
  cases hb : p (nth l j) with
  | true =>
    rw [hb] at kg
    rw [idxF_at hlt hb hn]
    simp (disch := first | (simp only [go_sem, gb0, eq_self]; done) | omega | (simp only [gl1, gl2]; omega)) only [go_sem, ↓reduceIte, Nat.reduceEqDiff, Nat.reduceAdd, Nat.reduceMul, Nat.reduceSub, Int.reduceToNat, Nat.reduceBEq, s0, s1, s7, s8, hlt, hsh, hse, List.singleton_append, kg]
  | false =>
    rw [hb] at kg
    simp (disch := first | (simp only [go_sem, gb0, eq_self]; done) | omega | (simp only [gl1, gl2]; omega)) only [go_sem, ↓reduceIte, Nat.reduceEqDiff, Nat.reduceAdd, Nat.reduceMul, Nat.reduceSub, Int.reduceToNat, Nat.reduceBEq, s0, s1, s7, s8, hlt, hsh, hse, List.singleton_append, kg]
    rw [ForK_normal]
    exact ⟨hlt, by simp (disch := first | (simp only [go_sem, gb0, eq_self]; done) | omega | (simp only [gl1, gl2]; omega)) only [go_sem, ↓reduceIte, Nat.reduceEqDiff, Nat.reduceAdd, Nat.reduceMul, Nat.reduceSub, Int.reduceToNat, Nat.reduceBEq, s8], by simp (disch := first | (simp only [go_sem, gb0, eq_self]; done) | omega | (simp only [gl1, gl2]; omega)) only [go_sem, ↓reduceIte, Nat.reduceEqDiff, Nat.reduceAdd, Nat.reduceMul, Nat.reduceSub, Int.reduceToNat, Nat.reduceBEq, s0], by simp (disch := first | (simp only [go_sem, gb0, eq_self]; done) | omega | (simp only [gl1, gl2]; omega)) only [go_sem, ↓reduceIte, Nat.reduceEqDiff, Nat.reduceAdd, Nat.reduceMul, Nat.reduceSub, Int.reduceToNat, Nat.reduceBEq, s1], by simp (disch := first | (simp only [go_sem, gb0, eq_self]; done) | omega | (simp only [gl1, gl2]; omega)) only [go_sem, ↓reduceIte, Nat.reduceEqDiff, Nat.reduceAdd, Nat.reduceMul, Nat.reduceSub, Int.reduceToNat, Nat.reduceBEq, s7], fun k hk => by
      by_cases q : k = j
      · subst q; exact hb
      · exact hn k (by omega)⟩
theorem f66_con {g : FuncId} {caps : List AV} (hsh : cfg.shared g = false) (hse : ∀ h, sealArgs h caps = some (caps, h)) (hsa : ∀ h : Hp, sealA h (.fn g caps) = some (.fn g caps, h)) (p : Int → Bool) (l : List Int) (hl : l.length ≤ maxLen) (hp : ∀ x ∈ l, Con Try.prog cfg g (I x :: caps) (.bool (p x))) :
    Con Try.prog cfg 66 [LI l, .fn g caps] (.bool (l.any p)) := by
  have k76 := fun h h' K => ConW_num (h := h) (h' := h') (K := K) (f76_con hsh hse p l hl hp) rfl
  have he := idxF_ge p l
  refine Con_intro Try.func66 rfl ok66 (Nat.le_of_ble_eq_true rfl) rfl ?_
  simp only [Try.f66, Option.getD_some, initSt2]
  simp (disch := first | (simp only [go_sem, gb0, eq_self]; done) | omega | (simp only [gl1, gl2]; omega)) only [go_sem, ↓reduceIte, Nat.reduceEqDiff, Nat.reduceAdd, Nat.reduceMul, Nat.reduceSub, Int.reduceToNat, Nat.reduceBEq, k76, hsa, he]

theorem f67_con (x : Int) : Con Try.prog cfg 67 [I x] (.bool (!inB x (-20) 20)) := by
  refine Con_intro Try.func67 rfl ok67 (Nat.le_of_ble_eq_true rfl) rfl ?_
  simp only [Try.f67, Option.getD_some, initSt1]
  simp (disch := first | (simp only [go_sem, gb0, eq_self]; done) | omega | (simp only [gl1, gl2]; omega)) only [go_sem, ↓reduceIte, Nat.reduceEqDiff, Nat.reduceAdd, Nat.reduceMul, Nat.reduceSub, Int.reduceToNat, Nat.reduceBEq]
def rowB (n : Nat) (l : List Int) : Bool := decide (l.length = n) && l.all fun x => inB x (-20) 20
/-- A table of a game. -/
def tblB (a : List (List Int)) : Bool := (inB a.length 1 4 && inB (nth a 0).length 1 4) && a.all (rowB (nth a 0).length)
structure okLL (a : List (List Int)) : Prop where
  len : a.length ≤ maxLen
  row : ∀ l ∈ a, l.length ≤ maxLen
theorem any_not (l : List Int) : (l.any fun x => !inB x (-20) 20) = !l.all fun x => inB x (-20) 20 := by
  rw [List.not_all_eq_any_not]
theorem f40_con (a : List (List Int)) (ha : okLL a) : Con Try.prog cfg 40 [LLI a] (.bool (tblB a)) := by
  have ml : maxLen = 9223372036854775807 := by decide
  have hl := ha.len
  cases c1 : inB a.length 1 4 with
  | false =>
    have hr : tblB a = false := by rw [tblB, c1]; rfl
    rw [hr]
    refine Con_intro Try.func40 rfl ok40 (Nat.le_of_ble_eq_true rfl) rfl ?_
    simp only [Try.f40, Option.getD_some, initSt1]
    simp (disch := first | (simp only [go_sem, gb0, eq_self]; done) | omega | (simp only [gl1, gl2]; omega)) only [go_sem, ↓reduceIte, Nat.reduceEqDiff, Nat.reduceAdd, Nat.reduceMul, Nat.reduceSub, Int.reduceToNat, Nat.reduceBEq, c1]
  | true =>
  have c1' := c1
  simp only [inB, Bool.and_eq_true, decide_eq_true_eq] at c1'
  have h0 : 0 < a.length := by omega
  cases c2 : inB (nth a 0).length 1 4 with
  | false =>
    have hr : tblB a = false := by rw [tblB, c1, c2]; rfl
    rw [hr]
    refine Con_intro Try.func40 rfl ok40 (Nat.le_of_ble_eq_true rfl) rfl ?_
    simp only [Try.f40, Option.getD_some, initSt1]
    simp (disch := first | (simp only [go_sem, gb0, eq_self]; done) | omega | (simp only [gl1, gl2]; omega)) only [go_sem, ↓reduceIte, Nat.reduceEqDiff, Nat.reduceAdd, Nat.reduceMul, Nat.reduceSub, Int.reduceToNat, Nat.reduceBEq, c1, c2, h0]
  | true =>
  have hr : tblB a = a.all (rowB (nth a 0).length) := by rw [tblB, c1, c2]; rfl
  rw [hr]
  refine Con_intro Try.func40 rfl ok40 (Nat.le_of_ble_eq_true rfl) rfl ?_
  simp only [Try.f40, Option.getD_some, initSt1]
  simp (disch := first | (simp only [go_sem, gb0, eq_self]; done) | omega | (simp only [gl1, gl2]; omega)) only [go_sem, ↓reduceIte, Nat.reduceEqDiff, Nat.reduceAdd, Nat.reduceMul, Nat.reduceSub, Int.reduceToNat, Nat.reduceBEq, c1, c2, h0]
  refine WP_for 19 a.length (fun j st h => st 0 = LLI a ∧ st 17 = LLI a ∧ st 18 = I a.length ∧ ∀ k, k < j → rowB (nth a 0).length (nth a k) = true) (by simp (disch := first | (simp only [go_sem, gb0, eq_self]; done) | omega | (simp only [gl1, gl2]; omega)) only [go_sem, ↓reduceIte, Nat.reduceEqDiff, Nat.reduceAdd, Nat.reduceMul, Nat.reduceSub, Int.reduceToNat, Nat.reduceBEq]) ⟨by simp (disch := first | (simp only [go_sem, gb0, eq_self]; done) | omega | (simp only [gl1, gl2]; omega)) only [go_sem, ↓reduceIte, Nat.reduceEqDiff, Nat.reduceAdd, Nat.reduceMul, Nat.reduceSub, Int.reduceToNat, Nat.reduceBEq], by simp (disch := first | (simp only [go_sem, gb0, eq_self]; done) | omega | (simp only [gl1, gl2]; omega)) only [go_sem, ↓reduceIte, Nat.reduceEqDiff, Nat.reduceAdd, Nat.reduceMul, Nat.reduceSub, Int.reduceToNat, Nat.reduceBEq], by simp (disch := first | (simp only [go_sem, gb0, eq_self]; done) | omega | (simp only [gl1, gl2]; omega)) only [go_sem, ↓reduceIte, Nat.reduceEqDiff, Nat.reduceAdd, Nat.reduceMul, Nat.reduceSub, Int.reduceToNat, Nat.reduceBEq], fun k hk => by omega⟩ ?_
  rintro j st h hj s19 ⟨s0, s17, s18, hn⟩
  by_cases hlt : j < a.length
  case neg =>
    have : a.all (rowB (nth a 0).length) = true := all_nthI fun i hi => hn i (by omega)
    rw [this]
    simp (disch := first | (simp only [go_sem, gb0, eq_self]; done) | omega | (simp only [gl1, gl2]; omega)) only [go_sem, ↓reduceIte, Nat.reduceEqDiff, Nat.reduceAdd, Nat.reduceMul, Nat.reduceSub, Int.reduceToNat, Nat.reduceBEq, s0, s17, s18, s19, hlt]
  by_cases hlen : (nth a j).length = (nth a 0).length
  case neg =>
    have : a.all (rowB (nth a 0).length) = false := all_no hlt (by rw [rowB, decide_eq_false hlen]; rfl)
    rw [this]
    have hlen' : ¬ ((nth a j).length : Int) = (nth a 0).length := by omega
    simp (disch := first | (simp only [go_sem, gb0, eq_self]; done) | omega | (simp only [gl1, gl2]; omega)) only [go_sem, ↓reduceIte, Nat.reduceEqDiff, Nat.reduceAdd, Nat.reduceMul, Nat.reduceSub, Int.reduceToNat, Nat.reduceBEq, s0, s17, s18, s19, hlt, h0, hlen']
  have k66 := fun h h' K => ConW_num (h := h) (h' := h') (K := K) (f66_con (g := 67) (caps := []) (by kernel_rfl) (fun _ => rfl) (fun _ => rfl) _ (nth a j) (ha.row _ (nth_mem hlt)) fun x _ => f67_con x) rfl
  have hse : ∀ h : Hp, sealA h (.fn 67 []) = some (.fn 67 [], h) := fun _ => rfl
  rw [any_not] at k66
  cases hb : (nth a j).all fun x => inB x (-20) 20 with
  | false =>
    rw [hb] at k66
    have : a.all (rowB (nth a 0).length) = false := all_no hlt (by rw [rowB, hb, Bool.and_false])
    rw [this]
    simp (disch := first | (simp only [go_sem, gb0, eq_self]; done) | omega | (simp only [gl1, gl2]; omega)) only [go_sem, ↓reduceIte, Nat.reduceEqDiff, Nat.reduceAdd, Nat.reduceMul, Nat.reduceSub, Int.reduceToNat, Nat.reduceBEq, s0, s17, s18, s19, hlt, h0, hlen, k66, hse, eq_self, decide_true, Bool.not_true, Bool.not_false]
  | true =>
    rw [hb] at k66
    simp (disch := first | (simp only [go_sem, gb0, eq_self]; done) | omega | (simp only [gl1, gl2]; omega)) only [go_sem, ↓reduceIte, Nat.reduceEqDiff, Nat.reduceAdd, Nat.reduceMul, Nat.reduceSub, Int.reduceToNat, Nat.reduceBEq, s0, s17, s18, s19, hlt, h0, hlen, k66, hse, eq_self, decide_true, Bool.not_true, Bool.not_false]
    rw [ForK_normal]
    exact ⟨hlt, by simp (disch := first | (simp only [go_sem, gb0, eq_self]; done) | omega | (simp only [gl1, gl2]; omega)) only [go_sem, ↓reduceIte, Nat.reduceEqDiff, Nat.reduceAdd, Nat.reduceMul, Nat.reduceSub, Int.reduceToNat, Nat.reduceBEq, s19], by simp (disch := first | (simp only [go_sem, gb0, eq_self]; done) | omega | (simp only [gl1, gl2]; omega)) only [go_sem, ↓reduceIte, Nat.reduceEqDiff, Nat.reduceAdd, Nat.reduceMul, Nat.reduceSub, Int.reduceToNat, Nat.reduceBEq, s0], by simp (disch := first | (simp only [go_sem, gb0, eq_self]; done) | omega | (simp only [gl1, gl2]; omega)) only [go_sem, ↓reduceIte, Nat.reduceEqDiff, Nat.reduceAdd, Nat.reduceMul, Nat.reduceSub, Int.reduceToNat, Nat.reduceBEq, s17], by simp (disch := first | (simp only [go_sem, gb0, eq_self]; done) | omega | (simp only [gl1, gl2]; omega)) only [go_sem, ↓reduceIte, Nat.reduceEqDiff, Nat.reduceAdd, Nat.reduceMul, Nat.reduceSub, Int.reduceToNat, Nat.reduceBEq, s18], fun k hk => by
      by_cases q : k = j
      · subst q; rw [rowB, decide_eq_true hlen, hb]; rfl
      · exact hn k (by omega)⟩
@[go_sem] theorem k40 (a : List (List Int)) (ha : okLL a) : ConW Try.prog cfg 40 h (some ([LLI a], h')) K = K (.bool (tblB a)) h := ConW_num (f40_con a ha) rfl
theorem tblB_Tb {a : List (List Int)} (h : tblB a = true) : Tb a a.length (nth a 0).length := by
  simp only [tblB, inB, Bool.and_eq_true, decide_eq_true_eq, List.all_eq_true] at h
  obtain ⟨⟨h1, h2⟩, h3⟩ := h
  have hr : ∀ i, i < a.length → rowB (nth a 0).length (nth a i) = true := fun i hi => h3 _ (nth_mem hi)
  refine ⟨by omega, by omega, by omega, by omega, rfl, fun i hi => ?_, fun i hi j hj => ?_⟩
  · have := hr i hi
    simp only [rowB, Bool.and_eq_true, decide_eq_true_eq] at this
    exact this.1
  · have := hr i hi
    simp only [rowB, inB, Bool.and_eq_true, decide_eq_true_eq, List.all_eq_true] at this
    exact this.2 _ (nth_mem (by omega))
/-- Two tables of a game. -/
def gamB (a b : List (List Int)) : Bool := (tblB a && tblB b) && (decide (a.length = b.length) && decide ((nth a 0).length = (nth b 0).length))
theorem f52_con (a b : List (List Int)) (ha : okLL a) (hb : okLL b) : Con Try.prog cfg 52 [LLI a, LLI b] (.bool (gamB a b)) := by
  have ml : maxLen = 9223372036854775807 := by decide
  have ka := fun h h' K => k40 (h := h) (h' := h') (K := K) a ha
  have kb := fun h h' K => k40 (h := h) (h' := h') (K := K) b hb
  cases c1 : tblB a with
  | false =>
    have hr : gamB a b = false := by rw [gamB, c1]; rfl
    rw [hr]
    refine Con_intro Try.func52 rfl ok52 (Nat.le_of_ble_eq_true rfl) rfl ?_
    simp only [Try.f52, Option.getD_some, initSt2]
    simp (disch := first | (simp only [go_sem, gb0, eq_self]; done) | omega | (simp only [gl1, gl2]; omega)) only [go_sem, ↓reduceIte, Nat.reduceEqDiff, Nat.reduceAdd, Nat.reduceMul, Nat.reduceSub, Int.reduceToNat, Nat.reduceBEq, ka, c1]
  | true =>
  cases c2 : tblB b with
  | false =>
    have hr : gamB a b = false := by rw [gamB, c2, Bool.and_false, Bool.false_and]
    rw [hr]
    refine Con_intro Try.func52 rfl ok52 (Nat.le_of_ble_eq_true rfl) rfl ?_
    simp only [Try.f52, Option.getD_some, initSt2]
    simp (disch := first | (simp only [go_sem, gb0, eq_self]; done) | omega | (simp only [gl1, gl2]; omega)) only [go_sem, ↓reduceIte, Nat.reduceEqDiff, Nat.reduceAdd, Nat.reduceMul, Nat.reduceSub, Int.reduceToNat, Nat.reduceBEq, ka, kb, c1, c2]
  | true =>
  have Ta := tblB_Tb c1
  have T' := tblB_Tb c2
  have h0 : 0 < a.length := Ta.m1
  have h1 : 0 < b.length := T'.m1
  by_cases c3 : a.length = b.length
  case neg =>
    have hr : gamB a b = false := by rw [gamB, decide_eq_false c3, Bool.false_and, Bool.and_false]
    rw [hr]
    have c3' : ¬ (a.length : Int) = b.length := by omega
    refine Con_intro Try.func52 rfl ok52 (Nat.le_of_ble_eq_true rfl) rfl ?_
    simp only [Try.f52, Option.getD_some, initSt2]
    simp (disch := first | (simp only [go_sem, gb0, eq_self]; done) | omega | (simp only [gl1, gl2]; omega)) only [go_sem, ↓reduceIte, Nat.reduceEqDiff, Nat.reduceAdd, Nat.reduceMul, Nat.reduceSub, Int.reduceToNat, Nat.reduceBEq, ka, kb, c1, c2, c3']
  have c3' : (a.length : Int) = b.length := by omega
  have hr : gamB a b = decide ((nth a 0).length = (nth b 0).length) := by rw [gamB, c1, c2, decide_eq_true c3]; rfl
  have hd : decide (((nth a 0).length : Int) = ((nth b 0).length : Int)) = decide ((nth a 0).length = (nth b 0).length) := decide_eq_decide.2 (by omega)
  rw [hr, ← hd]
  refine Con_intro Try.func52 rfl ok52 (Nat.le_of_ble_eq_true rfl) rfl ?_
  simp only [Try.f52, Option.getD_some, initSt2]
  simp (disch := first | (simp only [go_sem, gb0, eq_self]; done) | omega | (simp only [gl1, gl2]; omega)) only [go_sem, ↓reduceIte, Nat.reduceEqDiff, Nat.reduceAdd, Nat.reduceMul, Nat.reduceSub, Int.reduceToNat, Nat.reduceBEq, ka, kb, c1, c2, c3', h0, h1, eq_self, decide_true]
@[go_sem] theorem k52 (a b : List (List Int)) (ha : okLL a) (hb : okLL b) : ConW Try.prog cfg 52 h (some ([LLI a, LLI b], h')) K = K (.bool (gamB a b)) h := ConW_num (f52_con a b ha hb) rfl
theorem gamB_Tb {a b : List (List Int)} (h : gamB a b = true) : Tb a a.length (nth a 0).length ∧ Tb b a.length (nth a 0).length := by
  simp only [gamB, Bool.and_eq_true, decide_eq_true_eq] at h
  obtain ⟨⟨h1, h2⟩, h3, h4⟩ := h
  refine ⟨tblB_Tb h1, ?_⟩
  rw [h3, h4]; exact tblB_Tb h2
end Go.Proofs.Ytcdpkgmkckfonaa

set_option linter.unusedVariables false
set_option linter.unusedSimpArgs false
set_option maxRecDepth 10000
namespace Go.Proofs.Ytcdpkgmkckfonaa
open Go Go.Am

variable {h h' : Hp} {K : AV → Hp → Prop}

/-- Positions, as numbers. -/
def iL (R : List Nat) : List Int := R.map fun i : Nat => (i : Int)
theorem iL_len (R : List Nat) : (iL R).length = R.length := by simp [iL]
theorem iL_nth {R : List Nat} {k : Nat} (hk : k < R.length) : nth (iL R) k = ((nth R k : Nat) : Int) := by
  rw [nth, iL, List.getElem?_map, List.getElem?_eq_getElem hk, nth, List.getElem?_eq_getElem hk]; rfl
def nn (a : List (List Int)) (i j : Nat) : Int := nth (nth a i) j
/-- Row k is better than row i at all columns of C. -/
def domN (a : List (List Int)) (C : List Nat) (i k : Nat) : Bool := C.all fun j => decide (nn a i j < nn a k j)
def isD (a : List (List Int)) (R C : List Nat) (i : Nat) : Bool := R.any fun k => domN a C i k
def dmI (a : List (List Int)) (R C : List Nat) : Int := match R.find? (isD a R C) with | some i => i | none => -1
theorem find_at {p : Nat → Bool} {l : List Nat} {i : Nat} (hi : i < l.length) (hp : p (nth l i) = true) (hn : ∀ k, k < i → p (nth l k) = false) : l.find? p = some (nth l i) := by
  rw [List.find?_eq_some_iff_getElem]
  refine ⟨hp, i, hi, (nth_getElem hi).symm, fun j hj => ?_⟩
  rw [← nth_getElem (Nat.lt_trans hj hi), hn j hj]; rfl
theorem find_no {p : Nat → Bool} {l : List Nat} (hn : ∀ k, k < l.length → p (nth l k) = false) : l.find? p = none := by
  rw [List.find?_eq_none]
  intro x hx
  obtain ⟨k, hk, rfl⟩ := List.getElem_of_mem hx
  rw [← nth_getElem hk, hn k hk]; decide
theorem sealA_fn3 (g : FuncId) (i j k : Nat) (fz row fz' row' fz'' row'' : Bool) (x y z : AV) (hx : x.isPure = true) (hy : y.isPure = true) (hz : z.isPure = true) (hij : j ≠ i) (hik : k ≠ i) (hjk : k ≠ j) (hb : h.bl i = some (.cells fz row [x])) (hb' : h.bl j = some (.cells fz' row' [y])) (hb'' : h.bl k = some (.cells fz'' row'' [z])) :
    sealA h (.fn g [.ptr i 0, .ptr j 0, .ptr k 0]) = some (.fn g [.pp [x], .pp [y], .pp [z]], ((h.put i (some (.cells true row [x]))).put j (some (.cells true row' [y]))).put k (some (.cells true row'' [z]))) := by
  have key : ∀ (h : Hp) (i : Nat) (fz row : Bool) (x : AV), x.isPure = true → h.bl i = some (.cells fz row [x]) → sealV h (.ptr i 0) = some (.pp [x], h.put i (some (.cells true row [x]))) := by
    intro h i fz row x hx hb
    have := sealA_fn1 (h := h) g i fz row x hx hb
    have hp : (AV.fn g [.ptr i 0]).isPure = false := rfl
    simp only [sealA, hp, sealCells] at this
    cases hv : sealV h (.ptr i 0) with
    | none => rw [hv] at this; simp at this
    | some r =>
      rw [hv] at this
      obtain ⟨r1, r2⟩ := r
      simp at this
      obtain ⟨e1, e2⟩ := this
      rw [e1, e2]
  have s1 := key h i fz row x hx hb
  have s2 := key (h.put i (some (.cells true row [x]))) j fz' row' y hy (by rw [put_bl, if_neg hij]; exact hb')
  have s3 := key ((h.put i (some (.cells true row [x]))).put j (some (.cells true row' [y]))) k fz'' row'' z hz (by rw [put_bl, if_neg hjk, put_bl, if_neg hik]; exact hb'')
  have hp : (AV.fn g [.ptr i 0, .ptr j 0, .ptr k 0]).isPure = false := rfl
  simp only [sealA, hp, sealCells, s1, s2, s3, Option.bind_some, Option.map_some]
  rfl
theorem f75_con {a : List (List Int)} {i j k : Nat} (hi : i < a.length) (hk : k < a.length) (hji : j < (nth a i).length) (hjk : j < (nth a k).length) : Con Try.prog cfg 75 [I j, .pp [LLI a], .pp [I i], .pp [I k]] (.bool (decide (nn a k j ≤ nn a i j))) := by
  refine Con_intro Try.func75 rfl ok75 (Nat.le_of_ble_eq_true rfl) rfl ?_
  simp only [Try.f75, Option.getD_some, initSt4]
  simp (disch := first | (simp only [go_sem, gb0, eq_self]; done) | omega | (simp only [gl1, gl2]; omega)) only [go_sem, ↓reduceIte, Nat.reduceEqDiff, Nat.reduceAdd, Nat.reduceMul, Nat.reduceSub, Int.reduceToNat, Nat.reduceBEq, hi, hk, hji, hjk]
  rfl
theorem any_dom {a : List (List Int)} {C : List Nat} {i k : Nat} : ((iL C).any fun x => decide (nn a k x.toNat ≤ nn a i x.toNat)) = !domN a C i k := by
  rw [domN, List.not_all_eq_any_not, iL, List.any_map]
  congr 1
  funext j
  simp only [Function.comp_apply, Int.toNat_natCast]
  by_cases h : nn a k j ≤ nn a i j
  · rw [decide_eq_true h, decide_eq_false (by omega)]; rfl
  · rw [decide_eq_false h, decide_eq_true (by omega)]; rfl
theorem f55_con {a : List (List Int)} {m n : Nat} (hl : a.length = m) (hr : ∀ i, i < m → (nth a i).length = n) (R C : List Nat) (hR : ∀ i ∈ R, i < m) (hC : ∀ j ∈ C, j < n) (hRl : R.length ≤ 100) (hCl : C.length ≤ 100) :
    Con Try.prog cfg 55 [LLI a, LI (iL R), LI (iL C)] (I (dmI a R C)) := by
  have ml : maxLen = 9223372036854775807 := by decide
  have hRL := iL_len R
  have hCL := iL_len C
  have hal : ∀ (g : Hp), allocB g (some (LLI a)) = some (.ptr g.nx 0, g.alloc (.cells false false [LLI a])) := fun g => rfl
  refine Con_intro Try.func55 rfl ok55 (Nat.le_of_ble_eq_true rfl) rfl ?_
  simp only [Try.f55, Option.getD_some, initSt3]
  simp (disch := first | (simp only [go_sem, gb0, eq_self]; done) | omega | (simp only [gl1, gl2]; omega)) only [go_sem, ↓reduceIte, Nat.reduceEqDiff, Nat.reduceAdd, Nat.reduceMul, Nat.reduceSub, Int.reduceToNat, Nat.reduceBEq, hal, hRL]
  refine WP_for 13 R.length (fun i st h => st 2 = LI (iL C) ∧ st 3 = .ptr 0 0 ∧ st 11 = LI (iL R) ∧ st 12 = I R.length ∧ st 1 = LI (iL R) ∧ 1 ≤ h.nx ∧ h.bl 0 = some (.cells false false [LLI a]) ∧ ∀ x, x < i → isD a R C (nth R x) = false) (by simp (disch := first | (simp only [go_sem, gb0, eq_self]; done) | omega | (simp only [gl1, gl2]; omega)) only [go_sem, ↓reduceIte, Nat.reduceEqDiff, Nat.reduceAdd, Nat.reduceMul, Nat.reduceSub, Int.reduceToNat, Nat.reduceBEq]) ⟨by simp (disch := first | (simp only [go_sem, gb0, eq_self]; done) | omega | (simp only [gl1, gl2]; omega)) only [go_sem, ↓reduceIte, Nat.reduceEqDiff, Nat.reduceAdd, Nat.reduceMul, Nat.reduceSub, Int.reduceToNat, Nat.reduceBEq, hRL], by simp (disch := first | (simp only [go_sem, gb0, eq_self]; done) | omega | (simp only [gl1, gl2]; omega)) only [go_sem, ↓reduceIte, Nat.reduceEqDiff, Nat.reduceAdd, Nat.reduceMul, Nat.reduceSub, Int.reduceToNat, Nat.reduceBEq, hRL], by simp (disch := first | (simp only [go_sem, gb0, eq_self]; done) | omega | (simp only [gl1, gl2]; omega)) only [go_sem, ↓reduceIte, Nat.reduceEqDiff, Nat.reduceAdd, Nat.reduceMul, Nat.reduceSub, Int.reduceToNat, Nat.reduceBEq, hRL], by simp (disch := first | (simp only [go_sem, gb0, eq_self]; done) | omega | (simp only [gl1, gl2]; omega)) only [go_sem, ↓reduceIte, Nat.reduceEqDiff, Nat.reduceAdd, Nat.reduceMul, Nat.reduceSub, Int.reduceToNat, Nat.reduceBEq, hRL], by simp (disch := first | (simp only [go_sem, gb0, eq_self]; done) | omega | (simp only [gl1, gl2]; omega)) only [go_sem, ↓reduceIte, Nat.reduceEqDiff, Nat.reduceAdd, Nat.reduceMul, Nat.reduceSub, Int.reduceToNat, Nat.reduceBEq], by simp (disch := first | (simp only [go_sem, gb0, eq_self]; done) | omega | (simp only [gl1, gl2]; omega)) only [go_sem, ↓reduceIte, Nat.reduceEqDiff, Nat.reduceAdd, Nat.reduceMul, Nat.reduceSub, Int.reduceToNat, Nat.reduceBEq, Nat.le_refl], by simp (disch := first | (simp only [go_sem, gb0, eq_self]; done) | omega | (simp only [gl1, gl2]; omega)) only [go_sem, ↓reduceIte, Nat.reduceEqDiff, Nat.reduceAdd, Nat.reduceMul, Nat.reduceSub, Int.reduceToNat, Nat.reduceBEq], fun x hx => by omega⟩ ?_
  rintro i st h hi s13 ⟨s2, s3, s11, s12, s1, hnx, b0, hn⟩
  by_cases hlt : i < R.length
  case neg =>
    have : dmI a R C = -1 := by rw [dmI, find_no fun k hk => hn k (by omega)]
    rw [this]
    simp (disch := first | (simp only [go_sem, gb0, eq_self]; done) | omega | (simp only [gl1, gl2]; omega)) only [go_sem, ↓reduceIte, Nat.reduceEqDiff, Nat.reduceAdd, Nat.reduceMul, Nat.reduceSub, Int.reduceToNat, Nat.reduceBEq, s2, s3, s11, s12, s1, s13, hlt]
  have hil : i < (iL R).length := by omega
  have hni := iL_nth hlt
  obtain ⟨P, hP⟩ : ∃ P, h.nx = P := ⟨_, rfl⟩
  have n0P : ¬ 0 = P := by omega
  simp (disch := first | (simp only [go_sem, gb0, eq_self]; done) | omega | (simp only [gl1, gl2]; omega)) only [go_sem, ↓reduceIte, Nat.reduceEqDiff, Nat.reduceAdd, Nat.reduceMul, Nat.reduceSub, Int.reduceToNat, Nat.reduceBEq, s2, s3, s11, s12, s1, s13, hlt, hRL, hil, hni, hP]
  refine WP_for 19 R.length (fun k st h => st 2 = LI (iL C) ∧ st 3 = .ptr 0 0 ∧ st 11 = LI (iL R) ∧ st 12 = I R.length ∧ st 1 = LI (iL R) ∧ st 8 = .ptr P 0 ∧ st 13 = I i ∧ st 17 = LI (iL R) ∧ st 18 = I R.length ∧ P < h.nx ∧ h.bl 0 = some (.cells false false [LLI a]) ∧ h.bl P = some (.cells false false [I (nth R i : Nat)]) ∧ ∀ y, y < k → domN a C (nth R i) (nth R y) = false) (by simp (disch := first | (simp only [go_sem, gb0, eq_self]; done) | omega | (simp only [gl1, gl2]; omega)) only [go_sem, ↓reduceIte, Nat.reduceEqDiff, Nat.reduceAdd, Nat.reduceMul, Nat.reduceSub, Int.reduceToNat, Nat.reduceBEq]) ⟨by simp (disch := first | (simp only [go_sem, gb0, eq_self]; done) | omega | (simp only [gl1, gl2]; omega)) only [go_sem, ↓reduceIte, Nat.reduceEqDiff, Nat.reduceAdd, Nat.reduceMul, Nat.reduceSub, Int.reduceToNat, Nat.reduceBEq, s2, s3, s11, s12, hP, s1, s13, hRL], by simp (disch := first | (simp only [go_sem, gb0, eq_self]; done) | omega | (simp only [gl1, gl2]; omega)) only [go_sem, ↓reduceIte, Nat.reduceEqDiff, Nat.reduceAdd, Nat.reduceMul, Nat.reduceSub, Int.reduceToNat, Nat.reduceBEq, s2, s3, s11, s12, hP, s1, s13, hRL], by simp (disch := first | (simp only [go_sem, gb0, eq_self]; done) | omega | (simp only [gl1, gl2]; omega)) only [go_sem, ↓reduceIte, Nat.reduceEqDiff, Nat.reduceAdd, Nat.reduceMul, Nat.reduceSub, Int.reduceToNat, Nat.reduceBEq, s2, s3, s11, s12, hP, s1, s13, hRL], by simp (disch := first | (simp only [go_sem, gb0, eq_self]; done) | omega | (simp only [gl1, gl2]; omega)) only [go_sem, ↓reduceIte, Nat.reduceEqDiff, Nat.reduceAdd, Nat.reduceMul, Nat.reduceSub, Int.reduceToNat, Nat.reduceBEq, s2, s3, s11, s12, hP, s1, s13, hRL], by simp (disch := first | (simp only [go_sem, gb0, eq_self]; done) | omega | (simp only [gl1, gl2]; omega)) only [go_sem, ↓reduceIte, Nat.reduceEqDiff, Nat.reduceAdd, Nat.reduceMul, Nat.reduceSub, Int.reduceToNat, Nat.reduceBEq, s2, s3, s11, s12, hP, s1, s13, hRL], by simp (disch := first | (simp only [go_sem, gb0, eq_self]; done) | omega | (simp only [gl1, gl2]; omega)) only [go_sem, ↓reduceIte, Nat.reduceEqDiff, Nat.reduceAdd, Nat.reduceMul, Nat.reduceSub, Int.reduceToNat, Nat.reduceBEq, s2, s3, s11, s12, hP, s1, s13, hRL], by simp (disch := first | (simp only [go_sem, gb0, eq_self]; done) | omega | (simp only [gl1, gl2]; omega)) only [go_sem, ↓reduceIte, Nat.reduceEqDiff, Nat.reduceAdd, Nat.reduceMul, Nat.reduceSub, Int.reduceToNat, Nat.reduceBEq, s2, s3, s11, s12, hP, s1, s13, hRL], by simp (disch := first | (simp only [go_sem, gb0, eq_self]; done) | omega | (simp only [gl1, gl2]; omega)) only [go_sem, ↓reduceIte, Nat.reduceEqDiff, Nat.reduceAdd, Nat.reduceMul, Nat.reduceSub, Int.reduceToNat, Nat.reduceBEq, s2, s3, s11, s12, hP, s1, s13, hRL], by simp (disch := first | (simp only [go_sem, gb0, eq_self]; done) | omega | (simp only [gl1, gl2]; omega)) only [go_sem, ↓reduceIte, Nat.reduceEqDiff, Nat.reduceAdd, Nat.reduceMul, Nat.reduceSub, Int.reduceToNat, Nat.reduceBEq, s2, s3, s11, s12, hP, s1, s13, hRL], by simp (disch := first | (simp only [go_sem, gb0, eq_self]; done) | omega | (simp only [gl1, gl2]; omega)) only [go_sem, ↓reduceIte, Nat.reduceEqDiff, Nat.reduceAdd, Nat.reduceMul, Nat.reduceSub, Int.reduceToNat, Nat.reduceBEq, hP]; omega, by simp (disch := first | (simp only [go_sem, gb0, eq_self]; done) | omega | (simp only [gl1, gl2]; omega)) only [go_sem, ↓reduceIte, Nat.reduceEqDiff, Nat.reduceAdd, Nat.reduceMul, Nat.reduceSub, Int.reduceToNat, Nat.reduceBEq, hP, n0P, b0], by simp (disch := first | (simp only [go_sem, gb0, eq_self]; done) | omega | (simp only [gl1, gl2]; omega)) only [go_sem, ↓reduceIte, Nat.reduceEqDiff, Nat.reduceAdd, Nat.reduceMul, Nat.reduceSub, Int.reduceToNat, Nat.reduceBEq, hP], fun y hy => by omega⟩ ?_
  clear s1 s2 s3 s11 s12 b0 hP
  rintro k st h hk s19 ⟨s2, s3, s11, s12, s1, s8, s13, s17, s18, hlP, b0, bP, hn2⟩
  have hiR : nth R i ∈ R := nth_mem hlt
  have hfalse : (∀ y, y < R.length → domN a C (nth R i) (nth R y) = false) → isD a R C (nth R i) = false := fun h => by
    rw [isD, List.any_eq_false]
    intro x hx
    obtain ⟨y, hy, rfl⟩ := List.getElem_of_mem hx
    rw [← nth_getElem hy, h y hy]; decide
  by_cases hkl : k < R.length
  case neg =>
    have hke : k = R.length := by omega
    subst hke
    simp (disch := first | (simp only [go_sem, gb0, eq_self]; done) | omega | (simp only [gl1, gl2]; omega)) only [go_sem, ↓reduceIte, Nat.reduceEqDiff, Nat.reduceAdd, Nat.reduceMul, Nat.reduceSub, Int.reduceToNat, Nat.reduceBEq, s2, s3, s11, s12, s1, s8, s13, s17, s18, s19, hkl]
    rw [ForK_normal]
    refine ⟨hlt, by simp (disch := first | (simp only [go_sem, gb0, eq_self]; done) | omega | (simp only [gl1, gl2]; omega)) only [go_sem, ↓reduceIte, Nat.reduceEqDiff, Nat.reduceAdd, Nat.reduceMul, Nat.reduceSub, Int.reduceToNat, Nat.reduceBEq, s13], by simp (disch := first | (simp only [go_sem, gb0, eq_self]; done) | omega | (simp only [gl1, gl2]; omega)) only [go_sem, ↓reduceIte, Nat.reduceEqDiff, Nat.reduceAdd, Nat.reduceMul, Nat.reduceSub, Int.reduceToNat, Nat.reduceBEq, s2], by simp (disch := first | (simp only [go_sem, gb0, eq_self]; done) | omega | (simp only [gl1, gl2]; omega)) only [go_sem, ↓reduceIte, Nat.reduceEqDiff, Nat.reduceAdd, Nat.reduceMul, Nat.reduceSub, Int.reduceToNat, Nat.reduceBEq, s3], by simp (disch := first | (simp only [go_sem, gb0, eq_self]; done) | omega | (simp only [gl1, gl2]; omega)) only [go_sem, ↓reduceIte, Nat.reduceEqDiff, Nat.reduceAdd, Nat.reduceMul, Nat.reduceSub, Int.reduceToNat, Nat.reduceBEq, s11], by simp (disch := first | (simp only [go_sem, gb0, eq_self]; done) | omega | (simp only [gl1, gl2]; omega)) only [go_sem, ↓reduceIte, Nat.reduceEqDiff, Nat.reduceAdd, Nat.reduceMul, Nat.reduceSub, Int.reduceToNat, Nat.reduceBEq, s12], by simp (disch := first | (simp only [go_sem, gb0, eq_self]; done) | omega | (simp only [gl1, gl2]; omega)) only [go_sem, ↓reduceIte, Nat.reduceEqDiff, Nat.reduceAdd, Nat.reduceMul, Nat.reduceSub, Int.reduceToNat, Nat.reduceBEq, s1], by omega, b0, fun x hx => ?_⟩
    by_cases e : x = i
    · subst e; exact hfalse hn2
    · exact hn x (by omega)
  have hkl' : k < (iL R).length := by omega
  have hnk := iL_nth hkl
  have hkR : nth R k ∈ R := nth_mem hkl
  have hri := hR _ hiR
  have hrk := hR _ hkR
  obtain ⟨Q, hQ⟩ : ∃ Q, h.nx = Q := ⟨_, rfl⟩
  rw [hQ] at hlP
  have nPQ : ¬ P = Q := by omega
  have n0Q : ¬ 0 = Q := by omega
  have nQP : Q ≠ P := by omega
  have nQ0 : Q ≠ 0 := by omega
  have nP0 : P ≠ 0 := by omega
  have hpa : AV.pureL [LLI a] = true := by
    have : (LLI a).isPure = true := pure_L _
    simp only [AV.pureL, this]; rfl
  have hpp : AV.pureL [.pp [LLI a], .pp [I (nth R i : Nat)], .pp [I (nth R k : Nat)]] = true := by
    have h1 : (AV.pp [LLI a]).isPure = true := hpa
    simp only [AV.pureL, h1]; rfl
  have k66 := fun h h' K => ConW_num (h := h) (h' := h') (K := K) (f66_con (g := 75) (caps := [.pp [LLI a], .pp [I (nth R i : Nat)], .pp [I (nth R k : Nat)]]) (by kernel_rfl) (fun _ => by simp only [sealArgs, sealA_pp _ hpa, sealA_pp _ (show AV.pureL [I (nth R i : Nat)] = true from rfl), sealA_pp _ (show AV.pureL [I (nth R k : Nat)] = true from rfl), Option.bind_some, Option.map_some]) (fun _ => sealA_fn _ _ hpp) (fun x => decide (nn a (nth R k) x.toNat ≤ nn a (nth R i) x.toNat)) (iL C) (by omega) fun x hx => by
    obtain ⟨j, hj, rfl⟩ := List.mem_map.1 hx
    have hjn := hC j hj
    simp only [Int.toNat_natCast]
    exact f75_con (by omega) (by omega) (by rw [hr _ hri]; exact hjn) (by rw [hr _ hrk]; exact hjn)) rfl
  rw [any_dom] at k66
  have hse : ∀ g : Hp, g.bl 0 = some (.cells false false [LLI a]) → g.bl P = some (.cells false false [I (nth R i : Nat)]) → g.bl Q = some (.cells false false [I (nth R k : Nat)]) →
      sealA g (.fn 75 [.ptr 0 0, .ptr P 0, .ptr Q 0]) = some (.fn 75 [.pp [LLI a], .pp [I (nth R i : Nat)], .pp [I (nth R k : Nat)]], ((g.put 0 (some (.cells true false [LLI a]))).put P (some (.cells true false [I (nth R i : Nat)]))).put Q (some (.cells true false [I (nth R k : Nat)]))) :=
    fun g g0 g1 g2 => sealA_fn3 75 0 P Q false false false false false false _ _ _ (pure_L _) rfl rfl nP0 nQ0 nQP g0 g1 g2
  have hse' := hse ((h.alloc (.cells false false [I 0])).put Q (some (.cells false false [I (nth R k : Nat)]))) (by simp (disch := first | (simp only [go_sem, gb0, eq_self]; done) | omega | (simp only [gl1, gl2]; omega)) only [go_sem, ↓reduceIte, Nat.reduceEqDiff, Nat.reduceAdd, Nat.reduceMul, Nat.reduceSub, Int.reduceToNat, Nat.reduceBEq, hQ, n0Q, b0]) (by simp (disch := first | (simp only [go_sem, gb0, eq_self]; done) | omega | (simp only [gl1, gl2]; omega)) only [go_sem, ↓reduceIte, Nat.reduceEqDiff, Nat.reduceAdd, Nat.reduceMul, Nat.reduceSub, Int.reduceToNat, Nat.reduceBEq, hQ, nPQ, bP]) (by simp (disch := first | (simp only [go_sem, gb0, eq_self]; done) | omega | (simp only [gl1, gl2]; omega)) only [go_sem, ↓reduceIte, Nat.reduceEqDiff, Nat.reduceAdd, Nat.reduceMul, Nat.reduceSub, Int.reduceToNat, Nat.reduceBEq])
  cases hd : domN a C (nth R i) (nth R k) with
  | true =>
    rw [hd] at k66
    have h1 : isD a R C (nth R i) = true := by rw [isD, List.any_eq_true]; exact ⟨_, hkR, hd⟩
    have : dmI a R C = (nth R i : Nat) := by rw [dmI, find_at hlt h1 hn]
    rw [this]
    simp (disch := first | (simp only [go_sem, gb0, eq_self]; done) | omega | (simp only [gl1, gl2]; omega)) only [go_sem, ↓reduceIte, Nat.reduceEqDiff, Nat.reduceAdd, Nat.reduceMul, Nat.reduceSub, Int.reduceToNat, Nat.reduceBEq, s2, s3, s11, s12, s1, s8, s13, s17, s18, s19, hkl, hkl', hRL, hnk, hQ, hse', k66, n0Q, nPQ, bP]
  | false =>
    rw [hd] at k66
    simp (disch := first | (simp only [go_sem, gb0, eq_self]; done) | omega | (simp only [gl1, gl2]; omega)) only [go_sem, ↓reduceIte, Nat.reduceEqDiff, Nat.reduceAdd, Nat.reduceMul, Nat.reduceSub, Int.reduceToNat, Nat.reduceBEq, s2, s3, s11, s12, s1, s8, s13, s17, s18, s19, hkl, hkl', hRL, hnk, hQ, hse', k66, n0Q, nPQ, bP]
    rw [ForK_normal]
    refine ⟨hkl, by simp (disch := first | (simp only [go_sem, gb0, eq_self]; done) | omega | (simp only [gl1, gl2]; omega)) only [go_sem, ↓reduceIte, Nat.reduceEqDiff, Nat.reduceAdd, Nat.reduceMul, Nat.reduceSub, Int.reduceToNat, Nat.reduceBEq, s19], by simp (disch := first | (simp only [go_sem, gb0, eq_self]; done) | omega | (simp only [gl1, gl2]; omega)) only [go_sem, ↓reduceIte, Nat.reduceEqDiff, Nat.reduceAdd, Nat.reduceMul, Nat.reduceSub, Int.reduceToNat, Nat.reduceBEq, s2], by simp (disch := first | (simp only [go_sem, gb0, eq_self]; done) | omega | (simp only [gl1, gl2]; omega)) only [go_sem, ↓reduceIte, Nat.reduceEqDiff, Nat.reduceAdd, Nat.reduceMul, Nat.reduceSub, Int.reduceToNat, Nat.reduceBEq, s3], by simp (disch := first | (simp only [go_sem, gb0, eq_self]; done) | omega | (simp only [gl1, gl2]; omega)) only [go_sem, ↓reduceIte, Nat.reduceEqDiff, Nat.reduceAdd, Nat.reduceMul, Nat.reduceSub, Int.reduceToNat, Nat.reduceBEq, s11], by simp (disch := first | (simp only [go_sem, gb0, eq_self]; done) | omega | (simp only [gl1, gl2]; omega)) only [go_sem, ↓reduceIte, Nat.reduceEqDiff, Nat.reduceAdd, Nat.reduceMul, Nat.reduceSub, Int.reduceToNat, Nat.reduceBEq, s12], by simp (disch := first | (simp only [go_sem, gb0, eq_self]; done) | omega | (simp only [gl1, gl2]; omega)) only [go_sem, ↓reduceIte, Nat.reduceEqDiff, Nat.reduceAdd, Nat.reduceMul, Nat.reduceSub, Int.reduceToNat, Nat.reduceBEq, s1], by simp (disch := first | (simp only [go_sem, gb0, eq_self]; done) | omega | (simp only [gl1, gl2]; omega)) only [go_sem, ↓reduceIte, Nat.reduceEqDiff, Nat.reduceAdd, Nat.reduceMul, Nat.reduceSub, Int.reduceToNat, Nat.reduceBEq, s8], by simp (disch := first | (simp only [go_sem, gb0, eq_self]; done) | omega | (simp only [gl1, gl2]; omega)) only [go_sem, ↓reduceIte, Nat.reduceEqDiff, Nat.reduceAdd, Nat.reduceMul, Nat.reduceSub, Int.reduceToNat, Nat.reduceBEq, s13], by simp (disch := first | (simp only [go_sem, gb0, eq_self]; done) | omega | (simp only [gl1, gl2]; omega)) only [go_sem, ↓reduceIte, Nat.reduceEqDiff, Nat.reduceAdd, Nat.reduceMul, Nat.reduceSub, Int.reduceToNat, Nat.reduceBEq, s17], by simp (disch := first | (simp only [go_sem, gb0, eq_self]; done) | omega | (simp only [gl1, gl2]; omega)) only [go_sem, ↓reduceIte, Nat.reduceEqDiff, Nat.reduceAdd, Nat.reduceMul, Nat.reduceSub, Int.reduceToNat, Nat.reduceBEq, s18], by simp (disch := first | (simp only [go_sem, gb0, eq_self]; done) | omega | (simp only [gl1, gl2]; omega)) only [go_sem, ↓reduceIte, Nat.reduceEqDiff, Nat.reduceAdd, Nat.reduceMul, Nat.reduceSub, Int.reduceToNat, Nat.reduceBEq, hQ]; omega, by simp (disch := first | (simp only [go_sem, gb0, eq_self]; done) | omega | (simp only [gl1, gl2]; omega)) only [go_sem, ↓reduceIte, Nat.reduceEqDiff, Nat.reduceAdd, Nat.reduceMul, Nat.reduceSub, Int.reduceToNat, Nat.reduceBEq, hQ, n0Q, b0], by simp (disch := first | (simp only [go_sem, gb0, eq_self]; done) | omega | (simp only [gl1, gl2]; omega)) only [go_sem, ↓reduceIte, Nat.reduceEqDiff, Nat.reduceAdd, Nat.reduceMul, Nat.reduceSub, Int.reduceToNat, Nat.reduceBEq, hQ, nPQ, bP], fun y hy => ?_⟩
    by_cases e : y = k
    · subst e; exact hd
    · exact hn2 y (by omega)
theorem k55 {a : List (List Int)} {m n : Nat} (hl : a.length = m) (hr : ∀ i, i < m → (nth a i).length = n) (R C : List Nat) (hR : ∀ i ∈ R, i < m) (hC : ∀ j ∈ C, j < n) (hRl : R.length ≤ 100) (hCl : C.length ≤ 100) :
    ConW Try.prog cfg 55 h (some ([LLI a, LI (iL R), LI (iL C)], h')) K = K (I (dmI a R C)) h := ConW_num (f55_con hl hr R C hR hC hRl hCl) rfl
end Go.Proofs.Ytcdpkgmkckfonaa

set_option linter.unusedVariables false
set_option linter.unusedSimpArgs false
set_option maxRecDepth 10000
namespace Go.Proofs.Ytcdpkgmkckfonaa
open Go Go.Am

variable {c : Cfg} {h h' : Hp} {K : AV → Hp → Prop} {ops : Array Oper} {lim : Option Nat} {st : St}

noncomputable def mk76n (x : AV) : Option AV := buildB Try.prog (Try.prog.underlying 76) (izero Try.prog 76) [(1, x)]
@[go_sem] theorem mk76n_I (x : Int) : mk76n (I x) = some (.agg [.nil, I x]) := by kernel_rfl
structure okFP (f : Int × Int) : Prop where
  n0 : 0 ≤ f.1
  d1 : 1 ≤ f.2
  d2 : f.2 ≤ 16777216
  le : f.1 ≤ f.2
  g1 : gcdI f.1 f.2 = 1
end Go.Proofs.Ytcdpkgmkckfonaa

set_option linter.unusedVariables false
set_option linter.unusedSimpArgs false
set_option maxRecDepth 10000
namespace Go.Proofs.Ytcdpkgmkckfonaa
open Go Go.Am

variable {h h' : Hp} {K : AV → Hp → Prop}

/-- Numbers with a common denominator, for k acts. -/
structure Sh (xs : List Int) (d : Int) (k : Nat) : Prop where
  len : xs.length = k
  n0 : ∀ i, i < k → 0 ≤ nth xs i
  n1 : ∀ i, i < k → nth xs i ≤ 16777216
  d0 : 1 ≤ d
  d1 : d ≤ 16777216
def rowG (a : List (List Int)) (n : Nat) (ys : List Int) (i : Nat) : Int := sumN (fun j => nth (nth a i) j * nth ys j) n
def gainsL (a : List (List Int)) (m n : Nat) (ys : List Int) : List Int := (List.range m).map (rowG a n ys)
theorem gainsL_len (a : List (List Int)) (m n : Nat) (ys : List Int) : (gainsL a m n ys).length = m := by simp [gainsL]
theorem gainsL_nth {a : List (List Int)} {m n : Nat} {ys : List Int} {i : Nat} (hi : i < m) : nth (gainsL a m n ys) i = rowG a n ys i := nth_map_range _ _ _ hi
/-- The greatest of the first k + 1. -/
def maxN (l : List Int) : Nat → Int
  | 0 => nth l 0
  | k + 1 => max (maxN l k) (nth l (k + 1))
def maxL (l : List Int) : Int := maxN l (l.length - 1)
theorem maxN_ge (l : List Int) : ∀ k i, i ≤ k → nth l i ≤ maxN l k
  | 0, i, h => by rw [show i = 0 by omega]; exact Int.le_refl _
  | k + 1, i, h => by
    rw [maxN]
    by_cases e : i = k + 1
    · subst e; omega
    · have := maxN_ge l k i (by omega); omega
theorem maxN_ex (l : List Int) : ∀ k, ∃ i, i ≤ k ∧ maxN l k = nth l i
  | 0 => ⟨0, Nat.le_refl _, rfl⟩
  | k + 1 => by
    obtain ⟨i, h1, h2⟩ := maxN_ex l k
    rw [maxN]
    rcases Int.le_total (maxN l k) (nth l (k + 1)) with h | h
    · exact ⟨k + 1, Nat.le_refl _, by omega⟩
    · exact ⟨i, by omega, by omega⟩
theorem maxL_ge {l : List Int} {i : Nat} (hi : i < l.length) : nth l i ≤ maxL l := maxN_ge l _ i (by omega)
theorem maxL_ex {l : List Int} (hl : 0 < l.length) : ∃ i, i < l.length ∧ maxL l = nth l i := by
  obtain ⟨i, h1, h2⟩ := maxN_ex l (l.length - 1)
  exact ⟨i, by omega, h2⟩
theorem f54_con (l : List Int) (hl : l.length ≤ maxLen) (h0 : 0 < l.length) : Con Try.prog cfg 54 [LI l] (I (maxL l)) := by
  have ml : maxLen = 9223372036854775807 := by decide
  have h1 : ¬ (l.length : Int) < 1 := by omega
  refine Con_intro Try.func54 rfl ok54 (Nat.le_of_ble_eq_true rfl) rfl ?_
  simp only [Try.f54, Option.getD_some, initSt1]
  simp (disch := first | (simp only [go_sem, gb0, eq_self]; done) | omega | (simp only [gl1, gl2]; omega)) only [go_sem, ↓reduceIte, Nat.reduceEqDiff, Nat.reduceAdd, Nat.reduceMul, Nat.reduceSub, Int.reduceToNat, Nat.reduceBEq, h1, h0]
  refine WP_for1 4 (l.length - 1) (fun j st h => st 0 = LI l ∧ st 3 = I (maxN l j)) (by simp (disch := first | (simp only [go_sem, gb0, eq_self]; done) | omega | (simp only [gl1, gl2]; omega)) only [go_sem, ↓reduceIte, Nat.reduceEqDiff, Nat.reduceAdd, Nat.reduceMul, Nat.reduceSub, Int.reduceToNat, Nat.reduceBEq]) ⟨by simp (disch := first | (simp only [go_sem, gb0, eq_self]; done) | omega | (simp only [gl1, gl2]; omega)) only [go_sem, ↓reduceIte, Nat.reduceEqDiff, Nat.reduceAdd, Nat.reduceMul, Nat.reduceSub, Int.reduceToNat, Nat.reduceBEq], by simp (disch := first | (simp only [go_sem, gb0, eq_self]; done) | omega | (simp only [gl1, gl2]; omega)) only [go_sem, ↓reduceIte, Nat.reduceEqDiff, Nat.reduceAdd, Nat.reduceMul, Nat.reduceSub, Int.reduceToNat, Nat.reduceBEq]; rfl⟩ ?_
  rintro j st h hj s4 ⟨s0, s3⟩
  by_cases hlt : (j : Int) + 1 < l.length
  case neg =>
    have hje : j = l.length - 1 := by omega
    have : maxL l = maxN l j := by rw [maxL, hje]
    rw [this]
    simp (disch := first | (simp only [go_sem, gb0, eq_self]; done) | omega | (simp only [gl1, gl2]; omega)) only [go_sem, ↓reduceIte, Nat.reduceEqDiff, Nat.reduceAdd, Nat.reduceMul, Nat.reduceSub, Int.reduceToNat, Nat.reduceBEq, s0, s3, s4, hlt]
  have hlt' : j + 1 < l.length := by omega
  have hst : max (maxN l j) (nth l (j + 1)) = maxN l (j + 1) := rfl
  have htn : ((j : Int) + 1).toNat = j + 1 := by omega
  simp (disch := first | (simp only [go_sem, gb0, eq_self]; done) | omega | (simp only [gl1, gl2]; omega)) only [go_sem, ↓reduceIte, Nat.reduceEqDiff, Nat.reduceAdd, Nat.reduceMul, Nat.reduceSub, Int.reduceToNat, Nat.reduceBEq, s0, s3, s4, hlt, hlt', htn, hst]
  rw [For1K_normal]
  exact ⟨by omega, by simp (disch := first | (simp only [go_sem, gb0, eq_self]; done) | omega | (simp only [gl1, gl2]; omega)) only [go_sem, ↓reduceIte, Nat.reduceEqDiff, Nat.reduceAdd, Nat.reduceMul, Nat.reduceSub, Int.reduceToNat, Nat.reduceBEq, s4], by simp (disch := first | (simp only [go_sem, gb0, eq_self]; done) | omega | (simp only [gl1, gl2]; omega)) only [go_sem, ↓reduceIte, Nat.reduceEqDiff, Nat.reduceAdd, Nat.reduceMul, Nat.reduceSub, Int.reduceToNat, Nat.reduceBEq, s0], by simp (disch := first | (simp only [go_sem, gb0, eq_self]; done) | omega | (simp only [gl1, gl2]; omega)) only [go_sem, ↓reduceIte, Nat.reduceEqDiff, Nat.reduceAdd, Nat.reduceMul, Nat.reduceSub, Int.reduceToNat, Nat.reduceBEq]⟩
theorem k54 (l : List Int) (hl : l.length ≤ maxLen) (h0 : 0 < l.length) : ConW Try.prog cfg 54 h (some ([LI l], h')) K = K (I (maxL l)) h := ConW_num (f54_con l hl h0) rfl

/-! ### isBest -/
def bestB (a : List (List Int)) (m n : Nat) (xs ys : List Int) : Bool := (List.range m).all fun i => !(decide (0 < nth xs i) && decide (rowG a n ys i < maxL (gainsL a m n ys)))
/-! ### gain -/
end Go.Proofs.Ytcdpkgmkckfonaa

set_option linter.unusedVariables false
set_option linter.unusedSimpArgs false
set_option maxRecDepth 10000
namespace Go.Proofs.Ytcdpkgmkckfonaa
open Go Go.Am

variable {h h' : Hp} {K : AV → Hp → Prop}

/-! ### fractions -/
/-! ### Check -/
end Go.Proofs.Ytcdpkgmkckfonaa

set_option linter.unusedVariables false
set_option linter.unusedSimpArgs false
set_option maxRecDepth 10000
namespace Go.Proofs.Ytcdpkgmkckfonaa
open Go Go.Am

variable {h h' : Hp} {K : AV → Hp → Prop}

/-! ### Gains -/
/-! ### The reference's tests of tables -/
theorem rowB_no {n : Nat} {l : List Int} {j : Nat} (hj : j < l.length) (h : ¬ (-20 ≤ nth l j ∧ nth l j ≤ 20)) : rowB n l = false := by
  have : (l.all fun x => inB x (-20) 20) = false := all_no hj (by
    show (decide (-20 ≤ nth l j) && decide (nth l j ≤ 20)) = false
    rw [← Bool.decide_and, decide_eq_false h])
  rw [rowB, this, Bool.and_false]
theorem f19_con (a : List (List Int)) (ha : okLL a) : Con Try.prog cfg 19 [LLI a] (.bool (tblB a)) := by
  have ml : maxLen = 9223372036854775807 := by decide
  have hl := ha.len
  by_cases c1 : (a.length : Int) < 1
  · have hr : tblB a = false := by rw [tblB, inB, decide_eq_false (show ¬ (1 : Int) ≤ a.length by omega)]; rfl
    rw [hr]
    refine Con_intro Try.func19 rfl ok19 (Nat.le_of_ble_eq_true rfl) rfl ?_
    simp only [Try.f19, Option.getD_some, initSt1]
    simp (disch := first | (simp only [go_sem, gb0, eq_self]; done) | omega | (simp only [gl1, gl2]; omega)) only [go_sem, ↓reduceIte, Nat.reduceEqDiff, Nat.reduceAdd, Nat.reduceMul, Nat.reduceSub, Int.reduceToNat, Nat.reduceBEq, c1]
  by_cases c2 : 4 < (a.length : Int)
  · have hr : tblB a = false := by rw [tblB, inB, decide_eq_false (show ¬ (a.length : Int) ≤ 4 by omega), Bool.and_false]; rfl
    rw [hr]
    refine Con_intro Try.func19 rfl ok19 (Nat.le_of_ble_eq_true rfl) rfl ?_
    simp only [Try.f19, Option.getD_some, initSt1]
    simp (disch := first | (simp only [go_sem, gb0, eq_self]; done) | omega | (simp only [gl1, gl2]; omega)) only [go_sem, ↓reduceIte, Nat.reduceEqDiff, Nat.reduceAdd, Nat.reduceMul, Nat.reduceSub, Int.reduceToNat, Nat.reduceBEq, c1, c2]
  have i1 : inB a.length 1 4 = true := by simp only [inB, Bool.and_eq_true, decide_eq_true_eq]; omega
  have h0 : 0 < a.length := by omega
  have hrow : ∀ i, i < a.length → rowB (nth a 0).length (nth a i) = false → tblB a = false := fun i hi h => by rw [tblB, all_no hi h, Bool.and_false]
  have hlen4 : ∀ i, i < a.length → ¬ (1 ≤ (nth a i).length ∧ (nth a i).length ≤ 4) → tblB a = false := fun i hi h => by
    by_cases e : (nth a i).length = (nth a 0).length
    · have : inB (nth a 0).length 1 4 = false := by
        rw [← e, inB, ← Bool.decide_and]; exact decide_eq_false (by omega)
      rw [tblB, this, Bool.and_false]; rfl
    · exact hrow i hi (by rw [rowB, decide_eq_false e]; rfl)
  refine Con_intro Try.func19 rfl ok19 (Nat.le_of_ble_eq_true rfl) rfl ?_
  simp only [Try.f19, Option.getD_some, initSt1]
  simp (disch := first | (simp only [go_sem, gb0, eq_self]; done) | omega | (simp only [gl1, gl2]; omega)) only [go_sem, ↓reduceIte, Nat.reduceEqDiff, Nat.reduceAdd, Nat.reduceMul, Nat.reduceSub, Int.reduceToNat, Nat.reduceBEq, c1, c2]
  refine WP_for 3 a.length (fun i st h => st 0 = LLI a ∧ ∀ k, k < i → rowB (nth a 0).length (nth a k) = true ∧ 1 ≤ (nth a k).length ∧ (nth a k).length ≤ 4) (by simp (disch := first | (simp only [go_sem, gb0, eq_self]; done) | omega | (simp only [gl1, gl2]; omega)) only [go_sem, ↓reduceIte, Nat.reduceEqDiff, Nat.reduceAdd, Nat.reduceMul, Nat.reduceSub, Int.reduceToNat, Nat.reduceBEq]) ⟨by simp (disch := first | (simp only [go_sem, gb0, eq_self]; done) | omega | (simp only [gl1, gl2]; omega)) only [go_sem, ↓reduceIte, Nat.reduceEqDiff, Nat.reduceAdd, Nat.reduceMul, Nat.reduceSub, Int.reduceToNat, Nat.reduceBEq], fun k hk => by omega⟩ ?_
  rintro i st h hi s3 ⟨s0, hn⟩
  by_cases hlt : i < a.length
  case neg =>
    have h00 := (hn 0 (by omega)).2
    have : tblB a = true := by
      have i2 : inB (nth a 0).length 1 4 = true := by simp only [inB, Bool.and_eq_true, decide_eq_true_eq]; omega
      rw [tblB, i1, i2, all_nthI fun k hk => (hn k (by omega)).1]; rfl
    rw [this]
    simp (disch := first | (simp only [go_sem, gb0, eq_self]; done) | omega | (simp only [gl1, gl2]; omega)) only [go_sem, ↓reduceIte, Nat.reduceEqDiff, Nat.reduceAdd, Nat.reduceMul, Nat.reduceSub, Int.reduceToNat, Nat.reduceBEq, s0, s3, hlt]
  have hil : (i : Int) < a.length := by omega
  by_cases d1 : ((nth a i).length : Int) < 1
  · rw [hlen4 i hlt (by omega)]
    simp (disch := first | (simp only [go_sem, gb0, eq_self]; done) | omega | (simp only [gl1, gl2]; omega)) only [go_sem, ↓reduceIte, Nat.reduceEqDiff, Nat.reduceAdd, Nat.reduceMul, Nat.reduceSub, Int.reduceToNat, Nat.reduceBEq, s0, s3, hlt, hil, d1]
  by_cases d2 : 4 < ((nth a i).length : Int)
  · rw [hlen4 i hlt (by omega)]
    simp (disch := first | (simp only [go_sem, gb0, eq_self]; done) | omega | (simp only [gl1, gl2]; omega)) only [go_sem, ↓reduceIte, Nat.reduceEqDiff, Nat.reduceAdd, Nat.reduceMul, Nat.reduceSub, Int.reduceToNat, Nat.reduceBEq, s0, s3, hlt, hil, d1, d2]
  by_cases d3 : ((nth a i).length : Int) = (nth a 0).length
  case neg =>
    rw [hrow i hlt (by rw [rowB, decide_eq_false (by omega)]; rfl)]
    simp (disch := first | (simp only [go_sem, gb0, eq_self]; done) | omega | (simp only [gl1, gl2]; omega)) only [go_sem, ↓reduceIte, Nat.reduceEqDiff, Nat.reduceAdd, Nat.reduceMul, Nat.reduceSub, Int.reduceToNat, Nat.reduceBEq, s0, s3, hlt, hil, h0, d1, d2, d3]
  have d1' : ¬ ((nth a 0).length : Int) < 1 := by omega
  have d2' : ¬ 4 < ((nth a 0).length : Int) := by omega
  simp (disch := first | (simp only [go_sem, gb0, eq_self]; done) | omega | (simp only [gl1, gl2]; omega)) only [go_sem, ↓reduceIte, Nat.reduceEqDiff, Nat.reduceAdd, Nat.reduceMul, Nat.reduceSub, Int.reduceToNat, Nat.reduceBEq, s0, s3, hlt, hil, h0, d1', d2', d3, eq_self, decide_true, Bool.not_true]
  refine WP_for 4 (nth a i).length (fun j st h => st 0 = LLI a ∧ st 3 = I i ∧ ∀ k, k < j → -20 ≤ nth (nth a i) k ∧ nth (nth a i) k ≤ 20) (by simp (disch := first | (simp only [go_sem, gb0, eq_self]; done) | omega | (simp only [gl1, gl2]; omega)) only [go_sem, ↓reduceIte, Nat.reduceEqDiff, Nat.reduceAdd, Nat.reduceMul, Nat.reduceSub, Int.reduceToNat, Nat.reduceBEq]) ⟨by simp (disch := first | (simp only [go_sem, gb0, eq_self]; done) | omega | (simp only [gl1, gl2]; omega)) only [go_sem, ↓reduceIte, Nat.reduceEqDiff, Nat.reduceAdd, Nat.reduceMul, Nat.reduceSub, Int.reduceToNat, Nat.reduceBEq, s0, s3], by simp (disch := first | (simp only [go_sem, gb0, eq_self]; done) | omega | (simp only [gl1, gl2]; omega)) only [go_sem, ↓reduceIte, Nat.reduceEqDiff, Nat.reduceAdd, Nat.reduceMul, Nat.reduceSub, Int.reduceToNat, Nat.reduceBEq, s0, s3], fun k hk => by omega⟩ ?_
  clear s0 s3
  rintro j st h hj s4 ⟨s0, s3, hb⟩
  by_cases hjl : j < (nth a i).length
  case neg =>
    simp (disch := first | (simp only [go_sem, gb0, eq_self]; done) | omega | (simp only [gl1, gl2]; omega)) only [go_sem, ↓reduceIte, Nat.reduceEqDiff, Nat.reduceAdd, Nat.reduceMul, Nat.reduceSub, Int.reduceToNat, Nat.reduceBEq, s0, s3, s4, hlt, hil, hjl]
    rw [ForK_normal]
    refine ⟨hlt, by simp (disch := first | (simp only [go_sem, gb0, eq_self]; done) | omega | (simp only [gl1, gl2]; omega)) only [go_sem, ↓reduceIte, Nat.reduceEqDiff, Nat.reduceAdd, Nat.reduceMul, Nat.reduceSub, Int.reduceToNat, Nat.reduceBEq, s3], by simp (disch := first | (simp only [go_sem, gb0, eq_self]; done) | omega | (simp only [gl1, gl2]; omega)) only [go_sem, ↓reduceIte, Nat.reduceEqDiff, Nat.reduceAdd, Nat.reduceMul, Nat.reduceSub, Int.reduceToNat, Nat.reduceBEq, s0], fun k hk => ?_⟩
    by_cases q : k = i
    · subst q
      refine ⟨?_, by omega, by omega⟩
      rw [rowB, decide_eq_true (by omega)]
      exact all_nthI fun j' hj' => by
        have := hb j' (by omega)
        simp [inB, this.1, this.2]
    · exact hn k (by omega)
  have hjl' : (j : Int) < (nth a i).length := by omega
  by_cases e1 : nth (nth a i) j < -20
  · rw [hrow i hlt (rowB_no hjl (by omega))]
    simp (disch := first | (simp only [go_sem, gb0, eq_self]; done) | omega | (simp only [gl1, gl2]; omega)) only [go_sem, ↓reduceIte, Nat.reduceEqDiff, Nat.reduceAdd, Nat.reduceMul, Nat.reduceSub, Int.reduceToNat, Nat.reduceBEq, s0, s3, s4, hlt, hil, hjl, hjl', e1]
  by_cases e2 : 20 < nth (nth a i) j
  · rw [hrow i hlt (rowB_no hjl (by omega))]
    simp (disch := first | (simp only [go_sem, gb0, eq_self]; done) | omega | (simp only [gl1, gl2]; omega)) only [go_sem, ↓reduceIte, Nat.reduceEqDiff, Nat.reduceAdd, Nat.reduceMul, Nat.reduceSub, Int.reduceToNat, Nat.reduceBEq, s0, s3, s4, hlt, hil, hjl, hjl', e1, e2]
  simp (disch := first | (simp only [go_sem, gb0, eq_self]; done) | omega | (simp only [gl1, gl2]; omega)) only [go_sem, ↓reduceIte, Nat.reduceEqDiff, Nat.reduceAdd, Nat.reduceMul, Nat.reduceSub, Int.reduceToNat, Nat.reduceBEq, s0, s3, s4, hlt, hil, hjl, hjl', e1, e2]
  rw [ForK_normal]
  exact ⟨hjl, by simp (disch := first | (simp only [go_sem, gb0, eq_self]; done) | omega | (simp only [gl1, gl2]; omega)) only [go_sem, ↓reduceIte, Nat.reduceEqDiff, Nat.reduceAdd, Nat.reduceMul, Nat.reduceSub, Int.reduceToNat, Nat.reduceBEq, s4], by simp (disch := first | (simp only [go_sem, gb0, eq_self]; done) | omega | (simp only [gl1, gl2]; omega)) only [go_sem, ↓reduceIte, Nat.reduceEqDiff, Nat.reduceAdd, Nat.reduceMul, Nat.reduceSub, Int.reduceToNat, Nat.reduceBEq, s0], by simp (disch := first | (simp only [go_sem, gb0, eq_self]; done) | omega | (simp only [gl1, gl2]; omega)) only [go_sem, ↓reduceIte, Nat.reduceEqDiff, Nat.reduceAdd, Nat.reduceMul, Nat.reduceSub, Int.reduceToNat, Nat.reduceBEq, s3] , fun k hk => by
    by_cases q : k = j
    · subst q; omega
    · exact hb k (by omega)⟩
@[go_sem] theorem k19 (a : List (List Int)) (ha : okLL a) : ConW Try.prog cfg 19 h (some ([LLI a], h')) K = K (.bool (tblB a)) h := ConW_num (f19_con a ha) rfl
theorem f27_con (a b : List (List Int)) (ha : okLL a) (hb : okLL b) : Con Try.prog cfg 27 [LLI a, LLI b] (.bool (gamB a b)) := by
  have ml : maxLen = 9223372036854775807 := by decide
  have ka := fun h h' K => k19 (h := h) (h' := h') (K := K) a ha
  have kb := fun h h' K => k19 (h := h) (h' := h') (K := K) b hb
  cases c1 : tblB a with
  | false =>
    have hr : gamB a b = false := by rw [gamB, c1]; rfl
    rw [hr]
    refine Con_intro Try.func27 rfl ok27 (Nat.le_of_ble_eq_true rfl) rfl ?_
    simp only [Try.f27, Option.getD_some, initSt2]
    simp (disch := first | (simp only [go_sem, gb0, eq_self]; done) | omega | (simp only [gl1, gl2]; omega)) only [go_sem, ↓reduceIte, Nat.reduceEqDiff, Nat.reduceAdd, Nat.reduceMul, Nat.reduceSub, Int.reduceToNat, Nat.reduceBEq, ka, c1]
  | true =>
  cases c2 : tblB b with
  | false =>
    have hr : gamB a b = false := by rw [gamB, c2, Bool.and_false, Bool.false_and]
    rw [hr]
    refine Con_intro Try.func27 rfl ok27 (Nat.le_of_ble_eq_true rfl) rfl ?_
    simp only [Try.f27, Option.getD_some, initSt2]
    simp (disch := first | (simp only [go_sem, gb0, eq_self]; done) | omega | (simp only [gl1, gl2]; omega)) only [go_sem, ↓reduceIte, Nat.reduceEqDiff, Nat.reduceAdd, Nat.reduceMul, Nat.reduceSub, Int.reduceToNat, Nat.reduceBEq, ka, kb, c1, c2]
  | true =>
  have Ta := tblB_Tb c1
  have T' := tblB_Tb c2
  have h0 : 0 < a.length := Ta.m1
  have h1 : 0 < b.length := T'.m1
  by_cases c3 : a.length = b.length
  case neg =>
    have hr : gamB a b = false := by rw [gamB, decide_eq_false c3, Bool.false_and, Bool.and_false]
    rw [hr]
    have c3' : ¬ (a.length : Int) = b.length := by omega
    refine Con_intro Try.func27 rfl ok27 (Nat.le_of_ble_eq_true rfl) rfl ?_
    simp only [Try.f27, Option.getD_some, initSt2]
    simp (disch := first | (simp only [go_sem, gb0, eq_self]; done) | omega | (simp only [gl1, gl2]; omega)) only [go_sem, ↓reduceIte, Nat.reduceEqDiff, Nat.reduceAdd, Nat.reduceMul, Nat.reduceSub, Int.reduceToNat, Nat.reduceBEq, ka, kb, c1, c2, c3']
  have c3' : (a.length : Int) = b.length := by omega
  have hr : gamB a b = decide ((nth a 0).length = (nth b 0).length) := by rw [gamB, c1, c2, decide_eq_true c3]; rfl
  have hd : decide (((nth a 0).length : Int) = ((nth b 0).length : Int)) = decide ((nth a 0).length = (nth b 0).length) := decide_eq_decide.2 (by omega)
  rw [hr, ← hd]
  refine Con_intro Try.func27 rfl ok27 (Nat.le_of_ble_eq_true rfl) rfl ?_
  simp only [Try.f27, Option.getD_some, initSt2]
  simp (disch := first | (simp only [go_sem, gb0, eq_self]; done) | omega | (simp only [gl1, gl2]; omega)) only [go_sem, ↓reduceIte, Nat.reduceEqDiff, Nat.reduceAdd, Nat.reduceMul, Nat.reduceSub, Int.reduceToNat, Nat.reduceBEq, ka, kb, c1, c2, c3', h0, h1, eq_self, decide_true]
end Go.Proofs.Ytcdpkgmkckfonaa

set_option linter.unusedVariables false
set_option linter.unusedSimpArgs false
set_option maxRecDepth 10000
namespace Go.Proofs.Ytcdpkgmkckfonaa
open Go Go.Am

variable {h h' : Hp} {K : AV → Hp → Prop}

/-- Rows of one length. -/
structure Rec (a : List (List Int)) (m n : Nat) : Prop where
  m1 : 1 ≤ m
  m4 : m ≤ 4
  n1 : 1 ≤ n
  n4 : n ≤ 4
  len : a.length = m
  row : ∀ i, i < m → (nth a i).length = n
theorem Tb.rc {a : List (List Int)} {m n : Nat} (T : Tb a m n) : Rec a m n := ⟨T.m1, T.m4, T.n1, T.n4, T.len, T.row⟩
theorem f50_con {a : List (List Int)} {m n : Nat} (T : Rec a m n) : Con Try.prog cfg 50 [LLI a] (LLI (turnL a m n)) := by
  have hm1 := T.m1
  have hm4 := T.m4
  have hn1 := T.n1
  have hn4 := T.n4
  have hl := T.len
  have hr0 := T.row 0 (by omega)
  have h0 : 0 < a.length := by omega
  have hnl : turnL a m n = (List.range n).map fun j => colL a j m := rfl
  rw [hnl]
  refine Con_intro Try.func50 rfl ok50 (Nat.le_of_ble_eq_true rfl) rfl ?_
  simp only [Try.f50, Option.getD_some, initSt1]
  simp (disch := first | (simp only [go_sem, gb0, eq_self]; done) | omega | (simp only [gl1, gl2]; omega)) only [go_sem, ↓reduceIte, Nat.reduceEqDiff, Nat.reduceAdd, Nat.reduceMul, Nat.reduceSub, Int.reduceToNat, Nat.reduceBEq]
  refine WP_for 4 n (fun j st h => st 0 = LLI a ∧ ∃ v, st 3 = v ∧ Go.Am.Own (e1 LI) 1 h v ((List.range j).map fun j => colL a j m)) (by simp (disch := first | (simp only [go_sem, gb0, eq_self]; done) | omega | (simp only [gl1, gl2]; omega)) only [go_sem, ↓reduceIte, Nat.reduceEqDiff, Nat.reduceAdd, Nat.reduceMul, Nat.reduceSub, Int.reduceToNat, Nat.reduceBEq]) ⟨by simp (disch := first | (simp only [go_sem, gb0, eq_self]; done) | omega | (simp only [gl1, gl2]; omega)) only [go_sem, ↓reduceIte, Nat.reduceEqDiff, Nat.reduceAdd, Nat.reduceMul, Nat.reduceSub, Int.reduceToNat, Nat.reduceBEq], .nil, by simp (disch := first | (simp only [go_sem, gb0, eq_self]; done) | omega | (simp only [gl1, gl2]; omega)) only [go_sem, ↓reduceIte, Nat.reduceEqDiff, Nat.reduceAdd, Nat.reduceMul, Nat.reduceSub, Int.reduceToNat, Nat.reduceBEq], .inl ⟨rfl, rfl⟩⟩ ?_
  rintro j st h hj s4 ⟨s0, v, s3, ov⟩
  by_cases hlt : j < n
  case neg =>
    have hke : j = n := by omega
    subst hke
    simp (disch := first | (simp only [go_sem, gb0, eq_self]; done) | omega | (simp only [gl1, gl2]; omega)) only [go_sem, ↓reduceIte, Nat.reduceEqDiff, Nat.reduceAdd, Nat.reduceMul, Nat.reduceSub, Int.reduceToNat, Nat.reduceBEq, s0, s3, s4, hlt, h0, hr0]
    exact export_Own (f := e1 LI) 22 ov
  simp (disch := first | (simp only [go_sem, gb0, eq_self]; done) | omega | (simp only [gl1, gl2]; omega)) only [go_sem, ↓reduceIte, Nat.reduceEqDiff, Nat.reduceAdd, Nat.reduceMul, Nat.reduceSub, Int.reduceToNat, Nat.reduceBEq, s0, s3, s4, hlt, h0, hr0]
  refine WP_for 6 m (fun i st h => st 0 = LLI a ∧ st 4 = I j ∧ st 3 = v ∧ Go.Am.Own (e1 LI) 1 h v ((List.range j).map fun j => colL a j m) ∧ ∃ w, st 5 = w ∧ Go.Am.Own (e1 I) 1 h w (colL a j i) ∧ Dis v w) (by simp (disch := first | (simp only [go_sem, gb0, eq_self]; done) | omega | (simp only [gl1, gl2]; omega)) only [go_sem, ↓reduceIte, Nat.reduceEqDiff, Nat.reduceAdd, Nat.reduceMul, Nat.reduceSub, Int.reduceToNat, Nat.reduceBEq])
    ⟨by simp (disch := first | (simp only [go_sem, gb0, eq_self]; done) | omega | (simp only [gl1, gl2]; omega)) only [go_sem, ↓reduceIte, Nat.reduceEqDiff, Nat.reduceAdd, Nat.reduceMul, Nat.reduceSub, Int.reduceToNat, Nat.reduceBEq, s0, s4], by simp (disch := first | (simp only [go_sem, gb0, eq_self]; done) | omega | (simp only [gl1, gl2]; omega)) only [go_sem, ↓reduceIte, Nat.reduceEqDiff, Nat.reduceAdd, Nat.reduceMul, Nat.reduceSub, Int.reduceToNat, Nat.reduceBEq, s0, s4], by simp (disch := first | (simp only [go_sem, gb0, eq_self]; done) | omega | (simp only [gl1, gl2]; omega)) only [go_sem, ↓reduceIte, Nat.reduceEqDiff, Nat.reduceAdd, Nat.reduceMul, Nat.reduceSub, Int.reduceToNat, Nat.reduceBEq, s3], ov, .nil, by simp (disch := first | (simp only [go_sem, gb0, eq_self]; done) | omega | (simp only [gl1, gl2]; omega)) only [go_sem, ↓reduceIte, Nat.reduceEqDiff, Nat.reduceAdd, Nat.reduceMul, Nat.reduceSub, Int.reduceToNat, Nat.reduceBEq], .inl ⟨rfl, rfl⟩, Dis.nil_r _⟩ ?_
  rintro i st h hi s6 ⟨s0, s4, s3, ov, w, s5, ow, dd⟩
  by_cases hil : i < m
  case neg =>
    have hje : i = m := by omega
    subst hje
    obtain ⟨g1, z1, n1, b1⟩ := sealA_Own ow
    have ov1 : Go.Am.Own (e1 LI) 1 g1 v ((List.range j).map fun j => colL a j i) := by
      rcases ov with q | ⟨id, q, h1, h2⟩
      · exact .inl q
      · exact .inr ⟨id, q, by omega, by rw [b1 id fun id' off n s e' => dd _ _ _ _ _ _ _ _ q e']; exact h2⟩
    have hbs := bsB_one (P := Try.prog) 31 _ (LI (colL a j i)) .nil _ isz31 izero31 rfl rfl rfl z1 rfl rfl (pure_L _)
    have happ := app_one (P := Try.prog) ov1 31 24 .nil (colL a j i) isz31 ibytes31 izero31 rfl (by simp; omega) (by simp; omega)
    simp (disch := first | (simp only [go_sem, gb0, eq_self]; done) | omega | (simp only [gl1, gl2]; omega)) only [go_sem, ↓reduceIte, Nat.reduceEqDiff, Nat.reduceAdd, Nat.reduceMul, Nat.reduceSub, Int.reduceToNat, Nat.reduceBEq, s0, s4, s3, s5, s6, hil, hl, hbs, happ]
    rw [ForK_normal]
    refine ⟨hlt, by simp (disch := first | (simp only [go_sem, gb0, eq_self]; done) | omega | (simp only [gl1, gl2]; omega)) only [go_sem, ↓reduceIte, Nat.reduceEqDiff, Nat.reduceAdd, Nat.reduceMul, Nat.reduceSub, Int.reduceToNat, Nat.reduceBEq, s4], by simp (disch := first | (simp only [go_sem, gb0, eq_self]; done) | omega | (simp only [gl1, gl2]; omega)) only [go_sem, ↓reduceIte, Nat.reduceEqDiff, Nat.reduceAdd, Nat.reduceMul, Nat.reduceSub, Int.reduceToNat, Nat.reduceBEq, s0], _, by simp (disch := first | (simp only [go_sem, gb0, eq_self]; done) | omega | (simp only [gl1, gl2]; omega)) only [go_sem, ↓reduceIte, Nat.reduceEqDiff, Nat.reduceAdd, Nat.reduceMul, Nat.reduceSub, Int.reduceToNat, Nat.reduceBEq]; rfl, ?_⟩
    have := Own.app (f := e1 LI) (sz := 1) g1 v ((List.range j).map (fun j => colL a j i) ++ [colL a j i])
    rw [rows_snoc (fun j => colL a j i) j] at this ⊢
    exact this
  have hri := T.row i hil
  have hjr : j < (nth a i).length := by omega
  have hia : i < a.length := by omega
  have hbs := fun h : Hp => bsB_one (P := Try.prog) (h := h) 3 (I (nth (nth a i) j)) (I (nth (nth a i) j)) (I 0) h isz3 izero3 rfl rfl rfl rfl rfl rfl rfl
  have happ := app_one (P := Try.prog) ow 3 8 (I 0) (nth (nth a i) j) isz3 ibytes3 izero3 rfl (by rw [colL_len]; omega) (by rw [colL_len]; omega)
  simp (disch := first | (simp only [go_sem, gb0, eq_self]; done) | omega | (simp only [gl1, gl2]; omega)) only [go_sem, ↓reduceIte, Nat.reduceEqDiff, Nat.reduceAdd, Nat.reduceMul, Nat.reduceSub, Int.reduceToNat, Nat.reduceBEq, s0, s4, s3, s5, s6, hil, hl, hjr, hia, hbs, happ]
  rw [ForK_normal]
  refine ⟨hil, by simp (disch := first | (simp only [go_sem, gb0, eq_self]; done) | omega | (simp only [gl1, gl2]; omega)) only [go_sem, ↓reduceIte, Nat.reduceEqDiff, Nat.reduceAdd, Nat.reduceMul, Nat.reduceSub, Int.reduceToNat, Nat.reduceBEq, s6], by simp (disch := first | (simp only [go_sem, gb0, eq_self]; done) | omega | (simp only [gl1, gl2]; omega)) only [go_sem, ↓reduceIte, Nat.reduceEqDiff, Nat.reduceAdd, Nat.reduceMul, Nat.reduceSub, Int.reduceToNat, Nat.reduceBEq, s0], by simp (disch := first | (simp only [go_sem, gb0, eq_self]; done) | omega | (simp only [gl1, gl2]; omega)) only [go_sem, ↓reduceIte, Nat.reduceEqDiff, Nat.reduceAdd, Nat.reduceMul, Nat.reduceSub, Int.reduceToNat, Nat.reduceBEq, s4], by simp (disch := first | (simp only [go_sem, gb0, eq_self]; done) | omega | (simp only [gl1, gl2]; omega)) only [go_sem, ↓reduceIte, Nat.reduceEqDiff, Nat.reduceAdd, Nat.reduceMul, Nat.reduceSub, Int.reduceToNat, Nat.reduceBEq, s3], ov.keep dd.symm _, _, by simp (disch := first | (simp only [go_sem, gb0, eq_self]; done) | omega | (simp only [gl1, gl2]; omega)) only [go_sem, ↓reduceIte, Nat.reduceEqDiff, Nat.reduceAdd, Nat.reduceMul, Nat.reduceSub, Int.reduceToNat, Nat.reduceBEq]; rfl, ?_, ?_⟩
  · have e : colL a j (i + 1) = colL a j i ++ [nth (nth a i) j] := by rw [colL, colL, rows_snoc]
    rw [e]; exact Own.app _ _ _
  · exact (ov.dis _ _).symm
theorem k50 {a : List (List Int)} {m n : Nat} (T : Rec a m n) : ConW Try.prog cfg 50 h (some ([LLI a], h')) K = K (LLI (turnL a m n)) h' := by
  rw [ConW_any (f50_con T) rfl]; rfl

/-! ### Rows -/
theorem sum_pb {f : Nat → Int} {B : Int} {n : Nat} (hf : ∀ j, j < n → -B ≤ f j ∧ f j ≤ B) (hB : 0 ≤ B) : ∀ k, k ≤ n → -(k * B) ≤ sumN f k ∧ sumN f k ≤ k * B := fun k hk => sum_part_b hB hf k hk
theorem f51_con {a : List (List Int)} {m n : Nat} (T : Rec a m n) {ys : List Int} (hy : ys.length = n) (hp : ∀ i, i < m → ∀ j, j < n → -1125899906842624 ≤ nth (nth a i) j * nth ys j ∧ nth (nth a i) j * nth ys j ≤ 1125899906842624) : Con Try.prog cfg 51 [LLI a, LI ys] (LI (gainsL a m n ys)) := by
  have hm1 := T.m1
  have hm4 := T.m4
  have hn1 := T.n1
  have hn4 := T.n4
  have hl := T.len
  have hgl : gainsL a m n ys = (List.range m).map (rowG a n ys) := rfl
  rw [hgl]
  refine Con_intro Try.func51 rfl ok51 (Nat.le_of_ble_eq_true rfl) rfl ?_
  simp only [Try.f51, Option.getD_some, initSt2]
  simp (disch := first | (simp only [go_sem, gb0, eq_self]; done) | omega | (simp only [gl1, gl2]; omega)) only [go_sem, ↓reduceIte, Nat.reduceEqDiff, Nat.reduceAdd, Nat.reduceMul, Nat.reduceSub, Int.reduceToNat, Nat.reduceBEq]
  refine WP_for 6 m (fun i st h => st 0 = LLI a ∧ st 1 = LI ys ∧ ∃ v, st 5 = v ∧ Go.Am.Own (e1 I) 1 h v ((List.range i).map (rowG a n ys))) (by simp (disch := first | (simp only [go_sem, gb0, eq_self]; done) | omega | (simp only [gl1, gl2]; omega)) only [go_sem, ↓reduceIte, Nat.reduceEqDiff, Nat.reduceAdd, Nat.reduceMul, Nat.reduceSub, Int.reduceToNat, Nat.reduceBEq]) ⟨by simp (disch := first | (simp only [go_sem, gb0, eq_self]; done) | omega | (simp only [gl1, gl2]; omega)) only [go_sem, ↓reduceIte, Nat.reduceEqDiff, Nat.reduceAdd, Nat.reduceMul, Nat.reduceSub, Int.reduceToNat, Nat.reduceBEq], by simp (disch := first | (simp only [go_sem, gb0, eq_self]; done) | omega | (simp only [gl1, gl2]; omega)) only [go_sem, ↓reduceIte, Nat.reduceEqDiff, Nat.reduceAdd, Nat.reduceMul, Nat.reduceSub, Int.reduceToNat, Nat.reduceBEq], .nil, by simp (disch := first | (simp only [go_sem, gb0, eq_self]; done) | omega | (simp only [gl1, gl2]; omega)) only [go_sem, ↓reduceIte, Nat.reduceEqDiff, Nat.reduceAdd, Nat.reduceMul, Nat.reduceSub, Int.reduceToNat, Nat.reduceBEq], .inl ⟨rfl, rfl⟩⟩ ?_
  rintro i st h hi s6 ⟨s0, s1, v, s5, ov⟩
  by_cases hlt : i < m
  case neg =>
    have hke : i = m := by omega
    subst hke
    simp (disch := first | (simp only [go_sem, gb0, eq_self]; done) | omega | (simp only [gl1, gl2]; omega)) only [go_sem, ↓reduceIte, Nat.reduceEqDiff, Nat.reduceAdd, Nat.reduceMul, Nat.reduceSub, Int.reduceToNat, Nat.reduceBEq, s0, s1, s5, s6, hl, hlt]
    exact export_Own (f := e1 I) 31 ov
  have hri := T.row i hlt
  have hia : i < a.length := by omega
  simp (disch := first | (simp only [go_sem, gb0, eq_self]; done) | omega | (simp only [gl1, gl2]; omega)) only [go_sem, ↓reduceIte, Nat.reduceEqDiff, Nat.reduceAdd, Nat.reduceMul, Nat.reduceSub, Int.reduceToNat, Nat.reduceBEq, s0, s1, s5, s6, hl, hlt]
  refine WP_for 8 n (fun j st h => st 0 = LLI a ∧ st 1 = LI ys ∧ st 6 = I i ∧ st 5 = v ∧ Go.Am.Own (e1 I) 1 h v ((List.range i).map (rowG a n ys)) ∧ st 7 = I (sumN (fun j => nth (nth a i) j * nth ys j) j)) (by simp (disch := first | (simp only [go_sem, gb0, eq_self]; done) | omega | (simp only [gl1, gl2]; omega)) only [go_sem, ↓reduceIte, Nat.reduceEqDiff, Nat.reduceAdd, Nat.reduceMul, Nat.reduceSub, Int.reduceToNat, Nat.reduceBEq])
    ⟨by simp (disch := first | (simp only [go_sem, gb0, eq_self]; done) | omega | (simp only [gl1, gl2]; omega)) only [go_sem, ↓reduceIte, Nat.reduceEqDiff, Nat.reduceAdd, Nat.reduceMul, Nat.reduceSub, Int.reduceToNat, Nat.reduceBEq, s0, s1, s6], by simp (disch := first | (simp only [go_sem, gb0, eq_self]; done) | omega | (simp only [gl1, gl2]; omega)) only [go_sem, ↓reduceIte, Nat.reduceEqDiff, Nat.reduceAdd, Nat.reduceMul, Nat.reduceSub, Int.reduceToNat, Nat.reduceBEq, s0, s1, s6], by simp (disch := first | (simp only [go_sem, gb0, eq_self]; done) | omega | (simp only [gl1, gl2]; omega)) only [go_sem, ↓reduceIte, Nat.reduceEqDiff, Nat.reduceAdd, Nat.reduceMul, Nat.reduceSub, Int.reduceToNat, Nat.reduceBEq, s0, s1, s6], by simp (disch := first | (simp only [go_sem, gb0, eq_self]; done) | omega | (simp only [gl1, gl2]; omega)) only [go_sem, ↓reduceIte, Nat.reduceEqDiff, Nat.reduceAdd, Nat.reduceMul, Nat.reduceSub, Int.reduceToNat, Nat.reduceBEq, s5], ov, by simp (disch := first | (simp only [go_sem, gb0, eq_self]; done) | omega | (simp only [gl1, gl2]; omega)) only [go_sem, ↓reduceIte, Nat.reduceEqDiff, Nat.reduceAdd, Nat.reduceMul, Nat.reduceSub, Int.reduceToNat, Nat.reduceBEq]; rfl⟩ ?_
  clear s0 s1
  rintro j st h hj s8 ⟨s0, s1, s6, s5, ov, s7⟩
  by_cases hjl : j < n
  case neg =>
    have hje : j = n := by omega
    subst hje
    have hre : sumN (fun k => nth (nth a i) k * nth ys k) j = rowG a j ys i := rfl
    rw [hre] at s7
    have hbs := fun h : Hp => bsB_one (P := Try.prog) (h := h) 3 (I (rowG a j ys i)) (I (rowG a j ys i)) (I 0) h isz3 izero3 rfl rfl rfl rfl rfl rfl rfl
    have happ := app_one (P := Try.prog) ov 3 8 (I 0) (rowG a j ys i) isz3 ibytes3 izero3 rfl (by simp; omega) (by simp; omega)
    simp (disch := first | (simp only [go_sem, gb0, eq_self]; done) | omega | (simp only [gl1, gl2]; omega)) only [go_sem, ↓reduceIte, Nat.reduceEqDiff, Nat.reduceAdd, Nat.reduceMul, Nat.reduceSub, Int.reduceToNat, Nat.reduceBEq, s0, s1, s6, s5, s7, s8, hy, hjl, hbs, happ]
    rw [ForK_normal]
    refine ⟨hlt, by simp (disch := first | (simp only [go_sem, gb0, eq_self]; done) | omega | (simp only [gl1, gl2]; omega)) only [go_sem, ↓reduceIte, Nat.reduceEqDiff, Nat.reduceAdd, Nat.reduceMul, Nat.reduceSub, Int.reduceToNat, Nat.reduceBEq, s6], by simp (disch := first | (simp only [go_sem, gb0, eq_self]; done) | omega | (simp only [gl1, gl2]; omega)) only [go_sem, ↓reduceIte, Nat.reduceEqDiff, Nat.reduceAdd, Nat.reduceMul, Nat.reduceSub, Int.reduceToNat, Nat.reduceBEq, s0], by simp (disch := first | (simp only [go_sem, gb0, eq_self]; done) | omega | (simp only [gl1, gl2]; omega)) only [go_sem, ↓reduceIte, Nat.reduceEqDiff, Nat.reduceAdd, Nat.reduceMul, Nat.reduceSub, Int.reduceToNat, Nat.reduceBEq, s1], _, by simp (disch := first | (simp only [go_sem, gb0, eq_self]; done) | omega | (simp only [gl1, gl2]; omega)) only [go_sem, ↓reduceIte, Nat.reduceEqDiff, Nat.reduceAdd, Nat.reduceMul, Nat.reduceSub, Int.reduceToNat, Nat.reduceBEq]; rfl, ?_⟩
    rw [← rows_snoc]; exact Own.app _ _ _
  have hjr : j < (nth a i).length := by omega
  have hjy : j < ys.length := by omega
  have hb := sum_pb (B := 1125899906842624) (hp i hlt) (by decide) j (by omega)
  have hst : sumN (fun k => nth (nth a i) k * nth ys k) (j + 1) = sumN (fun k => nth (nth a i) k * nth ys k) j + nth (nth a i) j * nth ys j := rfl
  have hpb := hp i hlt j hjl
  generalize hS : sumN (fun k => nth (nth a i) k * nth ys k) j = S0 at *
  generalize hp : nth (nth a i) j * nth ys j = p at *
  simp (disch := first | (simp only [go_sem, gb0, eq_self]; done) | omega | (simp only [gl1, gl2]; omega)) only [go_sem, ↓reduceIte, Nat.reduceEqDiff, Nat.reduceAdd, Nat.reduceMul, Nat.reduceSub, Int.reduceToNat, Nat.reduceBEq, s0, s1, s6, s5, s7, s8, hjl, hjr, hjy, hia, hy, hp]
  rw [ForK_normal]
  exact ⟨hjl, by simp (disch := first | (simp only [go_sem, gb0, eq_self]; done) | omega | (simp only [gl1, gl2]; omega)) only [go_sem, ↓reduceIte, Nat.reduceEqDiff, Nat.reduceAdd, Nat.reduceMul, Nat.reduceSub, Int.reduceToNat, Nat.reduceBEq, s8], by simp (disch := first | (simp only [go_sem, gb0, eq_self]; done) | omega | (simp only [gl1, gl2]; omega)) only [go_sem, ↓reduceIte, Nat.reduceEqDiff, Nat.reduceAdd, Nat.reduceMul, Nat.reduceSub, Int.reduceToNat, Nat.reduceBEq, s0], by simp (disch := first | (simp only [go_sem, gb0, eq_self]; done) | omega | (simp only [gl1, gl2]; omega)) only [go_sem, ↓reduceIte, Nat.reduceEqDiff, Nat.reduceAdd, Nat.reduceMul, Nat.reduceSub, Int.reduceToNat, Nat.reduceBEq, s1], by simp (disch := first | (simp only [go_sem, gb0, eq_self]; done) | omega | (simp only [gl1, gl2]; omega)) only [go_sem, ↓reduceIte, Nat.reduceEqDiff, Nat.reduceAdd, Nat.reduceMul, Nat.reduceSub, Int.reduceToNat, Nat.reduceBEq, s6], by simp (disch := first | (simp only [go_sem, gb0, eq_self]; done) | omega | (simp only [gl1, gl2]; omega)) only [go_sem, ↓reduceIte, Nat.reduceEqDiff, Nat.reduceAdd, Nat.reduceMul, Nat.reduceSub, Int.reduceToNat, Nat.reduceBEq, s5], ov, by simp (disch := first | (simp only [go_sem, gb0, eq_self]; done) | omega | (simp only [gl1, gl2]; omega)) only [go_sem, ↓reduceIte, Nat.reduceEqDiff, Nat.reduceAdd, Nat.reduceMul, Nat.reduceSub, Int.reduceToNat, Nat.reduceBEq, hst]⟩
theorem k51 {a : List (List Int)} {m n : Nat} (T : Rec a m n) {ys : List Int} (hy : ys.length = n) (hp : ∀ i, i < m → ∀ j, j < n → -1125899906842624 ≤ nth (nth a i) j * nth ys j ∧ nth (nth a i) j * nth ys j ≤ 1125899906842624) : ConW Try.prog cfg 51 h (some ([LLI a, LI ys], h')) K = K (LI (gainsL a m n ys)) h' := by
  rw [ConW_any (f51_con T hy hp) rfl]; rfl
theorem Sh_prod {a : List (List Int)} {m n : Nat} (T : Tb a m n) {ys : List Int} {d : Int} (S : Sh ys d n) : ∀ i, i < m → ∀ j, j < n → -1125899906842624 ≤ nth (nth a i) j * nth ys j ∧ nth (nth a i) j * nth ys j ≤ 1125899906842624 := fun i hi j hj => by
  have h2 := T.bd i hi j hj
  have h3 := S.n0 j hj
  have h4 := S.n1 j hj
  have a1 : nth (nth a i) j * nth ys j ≤ 20 * nth ys j := Int.mul_le_mul_of_nonneg_right h2.2 h3
  have a2 : -20 * nth ys j ≤ nth (nth a i) j * nth ys j := Int.mul_le_mul_of_nonneg_right h2.1 h3
  omega

/-! ### best -/
theorem bestB_no {a : List (List Int)} {m n : Nat} {xs ys : List Int} {i k : Nat} (hi : i < m) (hk : k < m) (hx : 0 < nth xs i) (hg : rowG a n ys i < rowG a n ys k) : bestB a m n xs ys = false := by
  rw [bestB, List.all_eq_false]
  have h1 : nth (gainsL a m n ys) k ≤ maxL (gainsL a m n ys) := maxL_ge (by rw [gainsL_len]; exact hk)
  rw [gainsL_nth hk] at h1
  exact ⟨i, List.mem_range.2 hi, by rw [decide_eq_true hx, decide_eq_true (by omega)]; decide⟩
theorem bestB_yes {a : List (List Int)} {m n : Nat} {xs ys : List Int} (hm : 0 < m) (h : ∀ i, i < m → ∀ k, k < m → 0 < nth xs i → rowG a n ys k ≤ rowG a n ys i) : bestB a m n xs ys = true := by
  rw [bestB, List.all_eq_true]
  intro i hi
  have hi := List.mem_range.1 hi
  obtain ⟨k, hk, e⟩ := maxL_ex (l := gainsL a m n ys) (by rw [gainsL_len]; exact hm)
  rw [gainsL_len] at hk
  rw [gainsL_nth hk] at e
  by_cases hx : 0 < nth xs i
  · have := h i hi k hk hx
    rw [decide_eq_false (show ¬ rowG a n ys i < maxL (gainsL a m n ys) by omega), Bool.and_false]; rfl
  · rw [decide_eq_false hx]; rfl
theorem f49_con {a : List (List Int)} {m n : Nat} (T : Tb a m n) {xs ys : List Int} {e : Int} (hx : xs.length = m) (Y : Sh ys e n) : Con Try.prog cfg 49 [LLI a, LI xs, LI ys] (.bool (bestB a m n xs ys)) := by
  have hm1 := T.m1
  have hm4 := T.m4
  have kk51 := fun h h' K => k51 (h := h) (h' := h') (K := K) T.rc Y.len (Sh_prod T Y)
  have hgl := gainsL_len a m n ys
  have hno := fun i k hi hk hx hg => bestB_no (a := a) (m := m) (n := n) (xs := xs) (ys := ys) (i := i) (k := k) hi hk hx hg
  have hyes := bestB_yes (a := a) (m := m) (n := n) (xs := xs) (ys := ys) (by omega)
  have hGn : ∀ i, i < m → nth (gainsL a m n ys) i = rowG a n ys i := fun i hi => gainsL_nth hi
  refine Con_intro Try.func49 rfl ok49 (Nat.le_of_ble_eq_true rfl) rfl ?_
  simp only [Try.f49, Option.getD_some, initSt3]
  simp (disch := first | (simp only [go_sem, gb0, eq_self]; done) | omega | (simp only [gl1, gl2]; omega)) only [go_sem, ↓reduceIte, Nat.reduceEqDiff, Nat.reduceAdd, Nat.reduceMul, Nat.reduceSub, Int.reduceToNat, Nat.reduceBEq, kk51]
  generalize bestB a m n xs ys = B at *
  generalize gainsL a m n ys = G at *
  refine WP_for 8 m (fun i st h => st 1 = LI xs ∧ st 7 = LI G ∧ ∀ k, k < i → ∀ l, l < m → 0 < nth xs k → rowG a n ys l ≤ rowG a n ys k) (by simp (disch := first | (simp only [go_sem, gb0, eq_self]; done) | omega | (simp only [gl1, gl2]; omega)) only [go_sem, ↓reduceIte, Nat.reduceEqDiff, Nat.reduceAdd, Nat.reduceMul, Nat.reduceSub, Int.reduceToNat, Nat.reduceBEq]) ⟨by simp (disch := first | (simp only [go_sem, gb0, eq_self]; done) | omega | (simp only [gl1, gl2]; omega)) only [go_sem, ↓reduceIte, Nat.reduceEqDiff, Nat.reduceAdd, Nat.reduceMul, Nat.reduceSub, Int.reduceToNat, Nat.reduceBEq], by simp (disch := first | (simp only [go_sem, gb0, eq_self]; done) | omega | (simp only [gl1, gl2]; omega)) only [go_sem, ↓reduceIte, Nat.reduceEqDiff, Nat.reduceAdd, Nat.reduceMul, Nat.reduceSub, Int.reduceToNat, Nat.reduceBEq], fun k hk => by omega⟩ ?_
  rintro i st h hi s8 ⟨s1, s7, hn⟩
  by_cases hlt : i < m
  case neg =>
    rw [hyes fun k hk => hn k (by omega)]
    simp (disch := first | (simp only [go_sem, gb0, eq_self]; done) | omega | (simp only [gl1, gl2]; omega)) only [go_sem, ↓reduceIte, Nat.reduceEqDiff, Nat.reduceAdd, Nat.reduceMul, Nat.reduceSub, Int.reduceToNat, Nat.reduceBEq, s1, s7, s8, hgl, hlt]
  simp (disch := first | (simp only [go_sem, gb0, eq_self]; done) | omega | (simp only [gl1, gl2]; omega)) only [go_sem, ↓reduceIte, Nat.reduceEqDiff, Nat.reduceAdd, Nat.reduceMul, Nat.reduceSub, Int.reduceToNat, Nat.reduceBEq, s1, s7, s8, hgl, hlt]
  refine WP_for 9 m (fun l st h => st 1 = LI xs ∧ st 7 = LI G ∧ st 8 = I i ∧ ∀ k, k < l → 0 < nth xs i → rowG a n ys k ≤ rowG a n ys i) (by simp (disch := first | (simp only [go_sem, gb0, eq_self]; done) | omega | (simp only [gl1, gl2]; omega)) only [go_sem, ↓reduceIte, Nat.reduceEqDiff, Nat.reduceAdd, Nat.reduceMul, Nat.reduceSub, Int.reduceToNat, Nat.reduceBEq]) ⟨by simp (disch := first | (simp only [go_sem, gb0, eq_self]; done) | omega | (simp only [gl1, gl2]; omega)) only [go_sem, ↓reduceIte, Nat.reduceEqDiff, Nat.reduceAdd, Nat.reduceMul, Nat.reduceSub, Int.reduceToNat, Nat.reduceBEq, s1, s7, s8], by simp (disch := first | (simp only [go_sem, gb0, eq_self]; done) | omega | (simp only [gl1, gl2]; omega)) only [go_sem, ↓reduceIte, Nat.reduceEqDiff, Nat.reduceAdd, Nat.reduceMul, Nat.reduceSub, Int.reduceToNat, Nat.reduceBEq, s1, s7, s8], by simp (disch := first | (simp only [go_sem, gb0, eq_self]; done) | omega | (simp only [gl1, gl2]; omega)) only [go_sem, ↓reduceIte, Nat.reduceEqDiff, Nat.reduceAdd, Nat.reduceMul, Nat.reduceSub, Int.reduceToNat, Nat.reduceBEq, s1, s7, s8], fun k hk => by omega⟩ ?_
  clear s1 s7
  rintro l st h hl s9 ⟨s1, s7, s8, hn2⟩
  by_cases hll : l < m
  case neg =>
    simp (disch := first | (simp only [go_sem, gb0, eq_self]; done) | omega | (simp only [gl1, gl2]; omega)) only [go_sem, ↓reduceIte, Nat.reduceEqDiff, Nat.reduceAdd, Nat.reduceMul, Nat.reduceSub, Int.reduceToNat, Nat.reduceBEq, s1, s7, s8, s9, hgl, hll]
    rw [ForK_normal]
    exact ⟨hlt, by simp (disch := first | (simp only [go_sem, gb0, eq_self]; done) | omega | (simp only [gl1, gl2]; omega)) only [go_sem, ↓reduceIte, Nat.reduceEqDiff, Nat.reduceAdd, Nat.reduceMul, Nat.reduceSub, Int.reduceToNat, Nat.reduceBEq, s8], by simp (disch := first | (simp only [go_sem, gb0, eq_self]; done) | omega | (simp only [gl1, gl2]; omega)) only [go_sem, ↓reduceIte, Nat.reduceEqDiff, Nat.reduceAdd, Nat.reduceMul, Nat.reduceSub, Int.reduceToNat, Nat.reduceBEq, s1], by simp (disch := first | (simp only [go_sem, gb0, eq_self]; done) | omega | (simp only [gl1, gl2]; omega)) only [go_sem, ↓reduceIte, Nat.reduceEqDiff, Nat.reduceAdd, Nat.reduceMul, Nat.reduceSub, Int.reduceToNat, Nat.reduceBEq, s7], fun k hk => by
      by_cases q : k = i
      · subst q; exact fun l hl => hn2 l (by omega)
      · exact hn k (by omega)⟩
  have hix : i < xs.length := by omega
  have hig : i < G.length := by omega
  have hlg : l < G.length := by omega
  have gi := hGn i hlt
  have gl := hGn l hll
  by_cases c1 : 0 < nth xs i
  case neg =>
    simp (disch := first | (simp only [go_sem, gb0, eq_self]; done) | omega | (simp only [gl1, gl2]; omega)) only [go_sem, ↓reduceIte, Nat.reduceEqDiff, Nat.reduceAdd, Nat.reduceMul, Nat.reduceSub, Int.reduceToNat, Nat.reduceBEq, s1, s7, s8, s9, hgl, hll, hix, hx, hlt, c1]
    rw [ForK_normal]
    exact ⟨hll, by simp (disch := first | (simp only [go_sem, gb0, eq_self]; done) | omega | (simp only [gl1, gl2]; omega)) only [go_sem, ↓reduceIte, Nat.reduceEqDiff, Nat.reduceAdd, Nat.reduceMul, Nat.reduceSub, Int.reduceToNat, Nat.reduceBEq, s9], by simp (disch := first | (simp only [go_sem, gb0, eq_self]; done) | omega | (simp only [gl1, gl2]; omega)) only [go_sem, ↓reduceIte, Nat.reduceEqDiff, Nat.reduceAdd, Nat.reduceMul, Nat.reduceSub, Int.reduceToNat, Nat.reduceBEq, s1], by simp (disch := first | (simp only [go_sem, gb0, eq_self]; done) | omega | (simp only [gl1, gl2]; omega)) only [go_sem, ↓reduceIte, Nat.reduceEqDiff, Nat.reduceAdd, Nat.reduceMul, Nat.reduceSub, Int.reduceToNat, Nat.reduceBEq, s7], by simp (disch := first | (simp only [go_sem, gb0, eq_self]; done) | omega | (simp only [gl1, gl2]; omega)) only [go_sem, ↓reduceIte, Nat.reduceEqDiff, Nat.reduceAdd, Nat.reduceMul, Nat.reduceSub, Int.reduceToNat, Nat.reduceBEq, s8], fun k hk h => h.elim⟩
  by_cases c2 : nth G i < nth G l
  · rw [hno i l hlt hll c1 (by omega)]
    simp (disch := first | (simp only [go_sem, gb0, eq_self]; done) | omega | (simp only [gl1, gl2]; omega)) only [go_sem, ↓reduceIte, Nat.reduceEqDiff, Nat.reduceAdd, Nat.reduceMul, Nat.reduceSub, Int.reduceToNat, Nat.reduceBEq, s1, s7, s8, s9, hgl, hll, hix, hx, hlt, hig, hlg, c1, c2]
  · simp (disch := first | (simp only [go_sem, gb0, eq_self]; done) | omega | (simp only [gl1, gl2]; omega)) only [go_sem, ↓reduceIte, Nat.reduceEqDiff, Nat.reduceAdd, Nat.reduceMul, Nat.reduceSub, Int.reduceToNat, Nat.reduceBEq, s1, s7, s8, s9, hgl, hll, hix, hx, hlt, hig, hlg, c1, c2]
    rw [ForK_normal]
    exact ⟨hll, by simp (disch := first | (simp only [go_sem, gb0, eq_self]; done) | omega | (simp only [gl1, gl2]; omega)) only [go_sem, ↓reduceIte, Nat.reduceEqDiff, Nat.reduceAdd, Nat.reduceMul, Nat.reduceSub, Int.reduceToNat, Nat.reduceBEq, s9], by simp (disch := first | (simp only [go_sem, gb0, eq_self]; done) | omega | (simp only [gl1, gl2]; omega)) only [go_sem, ↓reduceIte, Nat.reduceEqDiff, Nat.reduceAdd, Nat.reduceMul, Nat.reduceSub, Int.reduceToNat, Nat.reduceBEq, s1], by simp (disch := first | (simp only [go_sem, gb0, eq_self]; done) | omega | (simp only [gl1, gl2]; omega)) only [go_sem, ↓reduceIte, Nat.reduceEqDiff, Nat.reduceAdd, Nat.reduceMul, Nat.reduceSub, Int.reduceToNat, Nat.reduceBEq, s7], by simp (disch := first | (simp only [go_sem, gb0, eq_self]; done) | omega | (simp only [gl1, gl2]; omega)) only [go_sem, ↓reduceIte, Nat.reduceEqDiff, Nat.reduceAdd, Nat.reduceMul, Nat.reduceSub, Int.reduceToNat, Nat.reduceBEq, s8], fun k hk _ => by
      by_cases q : k = l
      · subst q; omega
      · exact hn2 k (by omega) c1⟩
theorem k49 {a : List (List Int)} {m n : Nat} (T : Tb a m n) {xs ys : List Int} {e : Int} (hx : xs.length = m) (Y : Sh ys e n) : ConW Try.prog cfg 49 h (some ([LLI a, LI xs, LI ys], h')) K = K (.bool (bestB a m n xs ys)) h := ConW_num (f49_con T hx Y) rfl
def equB (a b : List (List Int)) (m n : Nat) (xs ys : List Int) : Bool := bestB a m n xs ys && bestB (turnL b m n) n m ys xs
theorem f22_con {a b : List (List Int)} {m n : Nat} (T : Tb a m n) (T' : Tb b m n) {xs ys : List Int} {d e : Int} (X : Sh xs d m) (Y : Sh ys e n) : Con Try.prog cfg 22 [LLI a, LLI b, LI xs, LI ys] (.bool (equB a b m n xs ys)) := by
  have kk49 := fun h h' K => k49 (h := h) (h' := h') (K := K) T X.len Y
  have kk50 := fun h h' K => k50 (h := h) (h' := h') (K := K) T'.rc
  have kk49' := fun h h' K => k49 (h := h) (h' := h') (K := K) (turnL_Tb T') Y.len X
  cases c1 : bestB a m n xs ys with
  | false =>
    have hr : equB a b m n xs ys = false := by rw [equB, c1]; rfl
    rw [hr]
    refine Con_intro Try.func22 rfl ok22 (Nat.le_of_ble_eq_true rfl) rfl ?_
    simp only [Try.f22, Option.getD_some, initSt4]
    simp (disch := first | (simp only [go_sem, gb0, eq_self]; done) | omega | (simp only [gl1, gl2]; omega)) only [go_sem, ↓reduceIte, Nat.reduceEqDiff, Nat.reduceAdd, Nat.reduceMul, Nat.reduceSub, Int.reduceToNat, Nat.reduceBEq, kk49, c1]
  | true =>
    have hr : equB a b m n xs ys = bestB (turnL b m n) n m ys xs := by rw [equB, c1]; rfl
    rw [hr]
    refine Con_intro Try.func22 rfl ok22 (Nat.le_of_ble_eq_true rfl) rfl ?_
    simp only [Try.f22, Option.getD_some, initSt4]
    simp (disch := first | (simp only [go_sem, gb0, eq_self]; done) | omega | (simp only [gl1, gl2]; omega)) only [go_sem, ↓reduceIte, Nat.reduceEqDiff, Nat.reduceAdd, Nat.reduceMul, Nat.reduceSub, Int.reduceToNat, Nat.reduceBEq, kk49, c1, kk50, kk49']
end Go.Proofs.Ytcdpkgmkckfonaa

set_option linter.unusedVariables false
set_option linter.unusedSimpArgs false
set_option maxRecDepth 10000
namespace Go.Proofs.Ytcdpkgmkckfonaa
open Go Go.Am

variable {h h' : Hp} {K : AV → Hp → Prop}

theorem f30_con (a b : List Int) (ha : a.length ≤ maxLen) (hb : b.length ≤ maxLen) : Con Try.prog cfg 30 [LI a, LI b] (.bool (decide (a = b))) := by
  have ml : maxLen = 9223372036854775807 := by decide
  by_cases hl : a.length = b.length
  case neg =>
    have hr : decide (a = b) = false := decide_eq_false fun h => hl (by rw [h])
    have hl' : ¬ (a.length : Int) = b.length := by omega
    rw [hr]
    refine Con_intro Try.func30 rfl ok30 (Nat.le_of_ble_eq_true rfl) rfl ?_
    simp only [Try.f30, Option.getD_some, initSt2]
    simp (disch := first | (simp only [go_sem, gb0, eq_self]; done) | omega | (simp only [gl1, gl2]; omega)) only [go_sem, ↓reduceIte, Nat.reduceEqDiff, Nat.reduceAdd, Nat.reduceMul, Nat.reduceSub, Int.reduceToNat, Nat.reduceBEq, hl']
  have hl' : (a.length : Int) = b.length := by omega
  refine Con_intro Try.func30 rfl ok30 (Nat.le_of_ble_eq_true rfl) rfl ?_
  simp only [Try.f30, Option.getD_some, initSt2]
  simp (disch := first | (simp only [go_sem, gb0, eq_self]; done) | omega | (simp only [gl1, gl2]; omega)) only [go_sem, ↓reduceIte, Nat.reduceEqDiff, Nat.reduceAdd, Nat.reduceMul, Nat.reduceSub, Int.reduceToNat, Nat.reduceBEq, hl', eq_self, decide_true, Bool.not_true]
  refine WP_for 5 a.length (fun j st h => st 0 = LI a ∧ st 1 = LI b ∧ ∀ k, k < j → nth a k = nth b k) (by simp (disch := first | (simp only [go_sem, gb0, eq_self]; done) | omega | (simp only [gl1, gl2]; omega)) only [go_sem, ↓reduceIte, Nat.reduceEqDiff, Nat.reduceAdd, Nat.reduceMul, Nat.reduceSub, Int.reduceToNat, Nat.reduceBEq]) ⟨by simp (disch := first | (simp only [go_sem, gb0, eq_self]; done) | omega | (simp only [gl1, gl2]; omega)) only [go_sem, ↓reduceIte, Nat.reduceEqDiff, Nat.reduceAdd, Nat.reduceMul, Nat.reduceSub, Int.reduceToNat, Nat.reduceBEq], by simp (disch := first | (simp only [go_sem, gb0, eq_self]; done) | omega | (simp only [gl1, gl2]; omega)) only [go_sem, ↓reduceIte, Nat.reduceEqDiff, Nat.reduceAdd, Nat.reduceMul, Nat.reduceSub, Int.reduceToNat, Nat.reduceBEq], fun k hk => by omega⟩ ?_
  rintro j st h hj s5 ⟨s0, s1, hall⟩
  by_cases hlt : j < a.length
  case neg =>
    have hr : decide (a = b) = true := decide_eq_true (list_ext_nth hl fun k hk => hall k (by omega))
    simp (disch := first | (simp only [go_sem, gb0, eq_self]; done) | omega | (simp only [gl1, gl2]; omega)) only [go_sem, ↓reduceIte, Nat.reduceEqDiff, Nat.reduceAdd, Nat.reduceMul, Nat.reduceSub, Int.reduceToNat, Nat.reduceBEq, s0, s1, s5, hlt, hr]
  have hla : j < b.length := by omega
  have hla' : (j : Int) < b.length := by omega
  have hlta : (j : Int) < a.length := by omega
  by_cases hc : nth a j = nth b j
  · simp (disch := first | (simp only [go_sem, gb0, eq_self]; done) | omega | (simp only [gl1, gl2]; omega)) only [go_sem, ↓reduceIte, Nat.reduceEqDiff, Nat.reduceAdd, Nat.reduceMul, Nat.reduceSub, Int.reduceToNat, Nat.reduceBEq, s0, s1, s5, hlt, hla, hla', hlta, hc, eq_self, decide_true, Bool.not_true]
    rw [ForK_normal]
    refine ⟨hlt, by simp (disch := first | (simp only [go_sem, gb0, eq_self]; done) | omega | (simp only [gl1, gl2]; omega)) only [go_sem, ↓reduceIte, Nat.reduceEqDiff, Nat.reduceAdd, Nat.reduceMul, Nat.reduceSub, Int.reduceToNat, Nat.reduceBEq, s5], by simp (disch := first | (simp only [go_sem, gb0, eq_self]; done) | omega | (simp only [gl1, gl2]; omega)) only [go_sem, ↓reduceIte, Nat.reduceEqDiff, Nat.reduceAdd, Nat.reduceMul, Nat.reduceSub, Int.reduceToNat, Nat.reduceBEq, s0], by simp (disch := first | (simp only [go_sem, gb0, eq_self]; done) | omega | (simp only [gl1, gl2]; omega)) only [go_sem, ↓reduceIte, Nat.reduceEqDiff, Nat.reduceAdd, Nat.reduceMul, Nat.reduceSub, Int.reduceToNat, Nat.reduceBEq, s1], fun k hk => ?_⟩
    by_cases hkj : k = j
    · subst hkj; exact hc
    · exact hall k (by omega)
  · have hr : decide (a = b) = false := decide_eq_false fun h => hc (by rw [h])
    simp (disch := first | (simp only [go_sem, gb0, eq_self]; done) | omega | (simp only [gl1, gl2]; omega)) only [go_sem, ↓reduceIte, Nat.reduceEqDiff, Nat.reduceAdd, Nat.reduceMul, Nat.reduceSub, Int.reduceToNat, Nat.reduceBEq, s0, s1, s5, hlt, hla, hla', hlta, hc, hr]
theorem f59_con (n : Nat) (hn : n ≤ 4) : Con Try.prog cfg 59 [I n] (LI (iL (List.range n))) := by
  have e : iL (List.range n) = (List.range n).map fun i : Nat => (i : Int) := rfl
  rw [e]
  refine Con_intro Try.func59 rfl ok59 (Nat.le_of_ble_eq_true rfl) rfl ?_
  simp only [Try.f59, Option.getD_some, initSt1]
  simp (disch := first | (simp only [go_sem, gb0, eq_self]; done) | omega | (simp only [gl1, gl2]; omega)) only [go_sem, ↓reduceIte, Nat.reduceEqDiff, Nat.reduceAdd, Nat.reduceMul, Nat.reduceSub, Int.reduceToNat, Nat.reduceBEq]
  refine WP_for 4 n (fun j st h => st 0 = I n ∧ ∃ v, st 3 = v ∧ Go.Am.Own (e1 I) 1 h v ((List.range j).map fun i : Nat => (i : Int))) (by simp (disch := first | (simp only [go_sem, gb0, eq_self]; done) | omega | (simp only [gl1, gl2]; omega)) only [go_sem, ↓reduceIte, Nat.reduceEqDiff, Nat.reduceAdd, Nat.reduceMul, Nat.reduceSub, Int.reduceToNat, Nat.reduceBEq]) ⟨by simp (disch := first | (simp only [go_sem, gb0, eq_self]; done) | omega | (simp only [gl1, gl2]; omega)) only [go_sem, ↓reduceIte, Nat.reduceEqDiff, Nat.reduceAdd, Nat.reduceMul, Nat.reduceSub, Int.reduceToNat, Nat.reduceBEq], .nil, by simp (disch := first | (simp only [go_sem, gb0, eq_self]; done) | omega | (simp only [gl1, gl2]; omega)) only [go_sem, ↓reduceIte, Nat.reduceEqDiff, Nat.reduceAdd, Nat.reduceMul, Nat.reduceSub, Int.reduceToNat, Nat.reduceBEq], .inl ⟨rfl, rfl⟩⟩ ?_
  rintro j st h hj s4 ⟨s0, v, s3, ov⟩
  by_cases hlt : j < n
  case neg =>
    have hje : j = n := by omega
    subst hje
    simp (disch := first | (simp only [go_sem, gb0, eq_self]; done) | omega | (simp only [gl1, gl2]; omega)) only [go_sem, ↓reduceIte, Nat.reduceEqDiff, Nat.reduceAdd, Nat.reduceMul, Nat.reduceSub, Int.reduceToNat, Nat.reduceBEq, s0, s3, s4, hlt]
    exact export_Own (f := e1 I) 31 ov
  have hlt' : (j : Int) < n := by omega
  have hbs := fun h : Hp => bsB_one (P := Try.prog) (h := h) 3 (I j) (I j) (I 0) h isz3 izero3 rfl rfl rfl rfl rfl rfl rfl
  have happ := app_one (P := Try.prog) ov 3 8 (I 0) (j : Int) isz3 ibytes3 izero3 rfl (by simp; omega) (by simp; omega)
  simp (disch := first | (simp only [go_sem, gb0, eq_self]; done) | omega | (simp only [gl1, gl2]; omega)) only [go_sem, ↓reduceIte, Nat.reduceEqDiff, Nat.reduceAdd, Nat.reduceMul, Nat.reduceSub, Int.reduceToNat, Nat.reduceBEq, s0, s3, s4, hlt, hlt', hbs, happ]
  rw [ForK_normal]
  refine ⟨hlt, by simp (disch := first | (simp only [go_sem, gb0, eq_self]; done) | omega | (simp only [gl1, gl2]; omega)) only [go_sem, ↓reduceIte, Nat.reduceEqDiff, Nat.reduceAdd, Nat.reduceMul, Nat.reduceSub, Int.reduceToNat, Nat.reduceBEq, s4], by simp (disch := first | (simp only [go_sem, gb0, eq_self]; done) | omega | (simp only [gl1, gl2]; omega)) only [go_sem, ↓reduceIte, Nat.reduceEqDiff, Nat.reduceAdd, Nat.reduceMul, Nat.reduceSub, Int.reduceToNat, Nat.reduceBEq, s0], _, by simp (disch := first | (simp only [go_sem, gb0, eq_self]; done) | omega | (simp only [gl1, gl2]; omega)) only [go_sem, ↓reduceIte, Nat.reduceEqDiff, Nat.reduceAdd, Nat.reduceMul, Nat.reduceSub, Int.reduceToNat, Nat.reduceBEq]; rfl, ?_⟩
  have := Own.app (f := e1 I) (sz := 1) h v ((List.range j).map (fun i : Nat => (i : Int)) ++ [(j : Int)])
  rw [rows_snoc (fun i : Nat => (i : Int)) j] at this ⊢
  exact this

/-! ### dominated -/
def dxI (a : List (List Int)) (R C : List Nat) : Int := match R.findIdx? (isD a R C) with | some i => i | none => -1
theorem findI_at {p : Nat → Bool} {l : List Nat} {i : Nat} (hi : i < l.length) (hp : p (nth l i) = true) (hn : ∀ k, k < i → p (nth l k) = false) : l.findIdx? p = some i := by
  rw [List.findIdx?_eq_some_iff_getElem]
  refine ⟨hi, by rw [← nth_getElem hi]; exact hp, fun j hj => ?_⟩
  rw [← nth_getElem (Nat.lt_trans hj hi), hn j hj]; decide
theorem findI_no {p : Nat → Bool} {l : List Nat} (hn : ∀ k, k < l.length → p (nth l k) = false) : l.findIdx? p = none := by
  rw [List.findIdx?_eq_none_iff]
  intro x hx
  obtain ⟨k, hk, rfl⟩ := List.getElem_of_mem hx
  rw [← nth_getElem hk]; exact hn k hk
theorem f60_con {a : List (List Int)} {m n : Nat} (hl : a.length = m) (hr : ∀ i, i < m → (nth a i).length = n) (R C : List Nat) (hR : ∀ i ∈ R, i < m) (hC : ∀ j ∈ C, j < n) (hRl : R.length ≤ 100) (hCl : C.length ≤ 100) :
    Con Try.prog cfg 60 [LLI a, LI (iL R), LI (iL C)] (I (dxI a R C)) := by
  have hRL := iL_len R
  have hCL := iL_len C
  refine Con_intro Try.func60 rfl ok60 (Nat.le_of_ble_eq_true rfl) rfl ?_
  simp only [Try.f60, Option.getD_some, initSt3]
  simp (disch := first | (simp only [go_sem, gb0, eq_self]; done) | omega | (simp only [gl1, gl2]; omega)) only [go_sem, ↓reduceIte, Nat.reduceEqDiff, Nat.reduceAdd, Nat.reduceMul, Nat.reduceSub, Int.reduceToNat, Nat.reduceBEq]
  refine WP_for 7 R.length (fun i st h => st 0 = LLI a ∧ st 1 = LI (iL R) ∧ st 2 = LI (iL C) ∧ ∀ x, x < i → isD a R C (nth R x) = false) (by simp (disch := first | (simp only [go_sem, gb0, eq_self]; done) | omega | (simp only [gl1, gl2]; omega)) only [go_sem, ↓reduceIte, Nat.reduceEqDiff, Nat.reduceAdd, Nat.reduceMul, Nat.reduceSub, Int.reduceToNat, Nat.reduceBEq]) ⟨by simp (disch := first | (simp only [go_sem, gb0, eq_self]; done) | omega | (simp only [gl1, gl2]; omega)) only [go_sem, ↓reduceIte, Nat.reduceEqDiff, Nat.reduceAdd, Nat.reduceMul, Nat.reduceSub, Int.reduceToNat, Nat.reduceBEq], by simp (disch := first | (simp only [go_sem, gb0, eq_self]; done) | omega | (simp only [gl1, gl2]; omega)) only [go_sem, ↓reduceIte, Nat.reduceEqDiff, Nat.reduceAdd, Nat.reduceMul, Nat.reduceSub, Int.reduceToNat, Nat.reduceBEq], by simp (disch := first | (simp only [go_sem, gb0, eq_self]; done) | omega | (simp only [gl1, gl2]; omega)) only [go_sem, ↓reduceIte, Nat.reduceEqDiff, Nat.reduceAdd, Nat.reduceMul, Nat.reduceSub, Int.reduceToNat, Nat.reduceBEq], fun x hx => by omega⟩ ?_
  rintro i st h hi s7 ⟨s0, s1, s2, hn⟩
  by_cases hlt : i < R.length
  case neg =>
    have : dxI a R C = -1 := by rw [dxI, findI_no fun k hk => hn k (by omega)]
    rw [this]
    simp (disch := first | (simp only [go_sem, gb0, eq_self]; done) | omega | (simp only [gl1, gl2]; omega)) only [go_sem, ↓reduceIte, Nat.reduceEqDiff, Nat.reduceAdd, Nat.reduceMul, Nat.reduceSub, Int.reduceToNat, Nat.reduceBEq, s0, s1, s2, s7, hRL, hlt]
  have hlt' : (i : Int) < R.length := by omega
  simp (disch := first | (simp only [go_sem, gb0, eq_self]; done) | omega | (simp only [gl1, gl2]; omega)) only [go_sem, ↓reduceIte, Nat.reduceEqDiff, Nat.reduceAdd, Nat.reduceMul, Nat.reduceSub, Int.reduceToNat, Nat.reduceBEq, s0, s1, s2, s7, hRL, hlt, hlt']
  refine WP_for 8 R.length (fun k st h => st 0 = LLI a ∧ st 1 = LI (iL R) ∧ st 2 = LI (iL C) ∧ st 7 = I i ∧ ∀ y, y < k → domN a C (nth R i) (nth R y) = false) (by simp (disch := first | (simp only [go_sem, gb0, eq_self]; done) | omega | (simp only [gl1, gl2]; omega)) only [go_sem, ↓reduceIte, Nat.reduceEqDiff, Nat.reduceAdd, Nat.reduceMul, Nat.reduceSub, Int.reduceToNat, Nat.reduceBEq]) ⟨by simp (disch := first | (simp only [go_sem, gb0, eq_self]; done) | omega | (simp only [gl1, gl2]; omega)) only [go_sem, ↓reduceIte, Nat.reduceEqDiff, Nat.reduceAdd, Nat.reduceMul, Nat.reduceSub, Int.reduceToNat, Nat.reduceBEq, s0, s1, s2, s7], by simp (disch := first | (simp only [go_sem, gb0, eq_self]; done) | omega | (simp only [gl1, gl2]; omega)) only [go_sem, ↓reduceIte, Nat.reduceEqDiff, Nat.reduceAdd, Nat.reduceMul, Nat.reduceSub, Int.reduceToNat, Nat.reduceBEq, s0, s1, s2, s7], by simp (disch := first | (simp only [go_sem, gb0, eq_self]; done) | omega | (simp only [gl1, gl2]; omega)) only [go_sem, ↓reduceIte, Nat.reduceEqDiff, Nat.reduceAdd, Nat.reduceMul, Nat.reduceSub, Int.reduceToNat, Nat.reduceBEq, s0, s1, s2, s7], by simp (disch := first | (simp only [go_sem, gb0, eq_self]; done) | omega | (simp only [gl1, gl2]; omega)) only [go_sem, ↓reduceIte, Nat.reduceEqDiff, Nat.reduceAdd, Nat.reduceMul, Nat.reduceSub, Int.reduceToNat, Nat.reduceBEq, s0, s1, s2, s7], fun y hy => by omega⟩ ?_
  clear s0 s1 s2
  rintro k st h hk s8 ⟨s0, s1, s2, s7, hn2⟩
  have hiR : nth R i ∈ R := nth_mem hlt
  by_cases hkl : k < R.length
  case neg =>
    have hke : k = R.length := by omega
    subst hke
    simp (disch := first | (simp only [go_sem, gb0, eq_self]; done) | omega | (simp only [gl1, gl2]; omega)) only [go_sem, ↓reduceIte, Nat.reduceEqDiff, Nat.reduceAdd, Nat.reduceMul, Nat.reduceSub, Int.reduceToNat, Nat.reduceBEq, s0, s1, s2, s7, s8, hRL, hkl]
    rw [ForK_normal]
    refine ⟨hlt, by simp (disch := first | (simp only [go_sem, gb0, eq_self]; done) | omega | (simp only [gl1, gl2]; omega)) only [go_sem, ↓reduceIte, Nat.reduceEqDiff, Nat.reduceAdd, Nat.reduceMul, Nat.reduceSub, Int.reduceToNat, Nat.reduceBEq, s7], by simp (disch := first | (simp only [go_sem, gb0, eq_self]; done) | omega | (simp only [gl1, gl2]; omega)) only [go_sem, ↓reduceIte, Nat.reduceEqDiff, Nat.reduceAdd, Nat.reduceMul, Nat.reduceSub, Int.reduceToNat, Nat.reduceBEq, s0], by simp (disch := first | (simp only [go_sem, gb0, eq_self]; done) | omega | (simp only [gl1, gl2]; omega)) only [go_sem, ↓reduceIte, Nat.reduceEqDiff, Nat.reduceAdd, Nat.reduceMul, Nat.reduceSub, Int.reduceToNat, Nat.reduceBEq, s1], by simp (disch := first | (simp only [go_sem, gb0, eq_self]; done) | omega | (simp only [gl1, gl2]; omega)) only [go_sem, ↓reduceIte, Nat.reduceEqDiff, Nat.reduceAdd, Nat.reduceMul, Nat.reduceSub, Int.reduceToNat, Nat.reduceBEq, s2], fun x hx => ?_⟩
    by_cases e : x = i
    · subst e
      rw [isD, List.any_eq_false]
      intro z hz
      obtain ⟨y, hy, rfl⟩ := List.getElem_of_mem hz
      rw [← nth_getElem hy, hn2 y hy]; decide
    · exact hn x (by omega)
  have hkl' : (k : Int) < R.length := by omega
  have hkR : nth R k ∈ R := nth_mem hkl
  simp (disch := first | (simp only [go_sem, gb0, eq_self]; done) | omega | (simp only [gl1, gl2]; omega)) only [go_sem, ↓reduceIte, Nat.reduceEqDiff, Nat.reduceAdd, Nat.reduceMul, Nat.reduceSub, Int.reduceToNat, Nat.reduceBEq, s0, s1, s2, s7, s8, hRL, hkl, hkl']
  refine WP_cut (fun st h => st 0 = LLI a ∧ st 1 = LI (iL R) ∧ st 2 = LI (iL C) ∧ st 7 = I i ∧ st 8 = I k ∧ st 9 = .bool (domN a C (nth R i) (nth R k))) ?_ ?_
  · refine WP_for 10 C.length (fun l st h => st 0 = LLI a ∧ st 1 = LI (iL R) ∧ st 2 = LI (iL C) ∧ st 7 = I i ∧ st 8 = I k ∧ st 9 = .bool ((C.take l).all fun j => decide (nn a (nth R i) j < nn a (nth R k) j))) (by simp (disch := first | (simp only [go_sem, gb0, eq_self]; done) | omega | (simp only [gl1, gl2]; omega)) only [go_sem, ↓reduceIte, Nat.reduceEqDiff, Nat.reduceAdd, Nat.reduceMul, Nat.reduceSub, Int.reduceToNat, Nat.reduceBEq]) ⟨by simp (disch := first | (simp only [go_sem, gb0, eq_self]; done) | omega | (simp only [gl1, gl2]; omega)) only [go_sem, ↓reduceIte, Nat.reduceEqDiff, Nat.reduceAdd, Nat.reduceMul, Nat.reduceSub, Int.reduceToNat, Nat.reduceBEq, s0, s1, s2, s7, s8], by simp (disch := first | (simp only [go_sem, gb0, eq_self]; done) | omega | (simp only [gl1, gl2]; omega)) only [go_sem, ↓reduceIte, Nat.reduceEqDiff, Nat.reduceAdd, Nat.reduceMul, Nat.reduceSub, Int.reduceToNat, Nat.reduceBEq, s0, s1, s2, s7, s8], by simp (disch := first | (simp only [go_sem, gb0, eq_self]; done) | omega | (simp only [gl1, gl2]; omega)) only [go_sem, ↓reduceIte, Nat.reduceEqDiff, Nat.reduceAdd, Nat.reduceMul, Nat.reduceSub, Int.reduceToNat, Nat.reduceBEq, s0, s1, s2, s7, s8], by simp (disch := first | (simp only [go_sem, gb0, eq_self]; done) | omega | (simp only [gl1, gl2]; omega)) only [go_sem, ↓reduceIte, Nat.reduceEqDiff, Nat.reduceAdd, Nat.reduceMul, Nat.reduceSub, Int.reduceToNat, Nat.reduceBEq, s0, s1, s2, s7, s8], by simp (disch := first | (simp only [go_sem, gb0, eq_self]; done) | omega | (simp only [gl1, gl2]; omega)) only [go_sem, ↓reduceIte, Nat.reduceEqDiff, Nat.reduceAdd, Nat.reduceMul, Nat.reduceSub, Int.reduceToNat, Nat.reduceBEq, s0, s1, s2, s7, s8], by simp (disch := first | (simp only [go_sem, gb0, eq_self]; done) | omega | (simp only [gl1, gl2]; omega)) only [go_sem, ↓reduceIte, Nat.reduceEqDiff, Nat.reduceAdd, Nat.reduceMul, Nat.reduceSub, Int.reduceToNat, Nat.reduceBEq]; rfl⟩ ?_
    clear s0 s1 s2 s7 s8
    rintro l st h hl10 s10 ⟨s0, s1, s2, s7, s8, s9⟩
    by_cases hll : l < C.length
    case neg =>
      have hle : l = C.length := by omega
      rw [hle, List.take_length] at s9
      simp (disch := first | (simp only [go_sem, gb0, eq_self]; done) | omega | (simp only [gl1, gl2]; omega)) only [go_sem, ↓reduceIte, Nat.reduceEqDiff, Nat.reduceAdd, Nat.reduceMul, Nat.reduceSub, Int.reduceToNat, Nat.reduceBEq, s0, s1, s2, s7, s8, s9, s10, hCL, hll]
      rfl
    have hll' : (l : Int) < C.length := by omega
    have hjC : nth C l ∈ C := nth_mem hll
    have htk : (C.take (l + 1)).all (fun j => decide (nn a (nth R i) j < nn a (nth R k) j)) = ((C.take l).all (fun j => decide (nn a (nth R i) j < nn a (nth R k) j)) && decide (nn a (nth R i) (nth C l) < nn a (nth R k) (nth C l))) := by
      rw [List.take_add_one, List.all_append, nth_get hll]; simp
    have hri := hR _ hiR
    have hrk := hR _ hkR
    have hcj := hC _ hjC
    have hiL : i < (iL R).length := by omega
    have hkL : k < (iL R).length := by omega
    have hlL : l < (iL C).length := by omega
    have n1 := iL_nth hlt
    have n2 := iL_nth hkl
    have n3 := iL_nth hll
    have a1 : nth R i < a.length := by omega
    have a2 : nth R k < a.length := by omega
    have b1 : nth C l < (nth a (nth R i)).length := by rw [hr _ hri]; exact hcj
    have b2 : nth C l < (nth a (nth R k)).length := by rw [hr _ hrk]; exact hcj
    cases hb : (C.take l).all (fun j => decide (nn a (nth R i) j < nn a (nth R k) j)) with
    | false =>
      rw [hb] at s9 htk
      simp (disch := first | (simp only [go_sem, gb0, eq_self]; done) | omega | (simp only [gl1, gl2]; omega)) only [go_sem, ↓reduceIte, Nat.reduceEqDiff, Nat.reduceAdd, Nat.reduceMul, Nat.reduceSub, Int.reduceToNat, Nat.reduceBEq, s0, s1, s2, s7, s8, s9, s10, hCL, hRL, hll, hll', hlt, hkl]
      rw [ForK_normal]
      exact ⟨hll, by simp (disch := first | (simp only [go_sem, gb0, eq_self]; done) | omega | (simp only [gl1, gl2]; omega)) only [go_sem, ↓reduceIte, Nat.reduceEqDiff, Nat.reduceAdd, Nat.reduceMul, Nat.reduceSub, Int.reduceToNat, Nat.reduceBEq, s10], by simp (disch := first | (simp only [go_sem, gb0, eq_self]; done) | omega | (simp only [gl1, gl2]; omega)) only [go_sem, ↓reduceIte, Nat.reduceEqDiff, Nat.reduceAdd, Nat.reduceMul, Nat.reduceSub, Int.reduceToNat, Nat.reduceBEq, s0], by simp (disch := first | (simp only [go_sem, gb0, eq_self]; done) | omega | (simp only [gl1, gl2]; omega)) only [go_sem, ↓reduceIte, Nat.reduceEqDiff, Nat.reduceAdd, Nat.reduceMul, Nat.reduceSub, Int.reduceToNat, Nat.reduceBEq, s1], by simp (disch := first | (simp only [go_sem, gb0, eq_self]; done) | omega | (simp only [gl1, gl2]; omega)) only [go_sem, ↓reduceIte, Nat.reduceEqDiff, Nat.reduceAdd, Nat.reduceMul, Nat.reduceSub, Int.reduceToNat, Nat.reduceBEq, s2], by simp (disch := first | (simp only [go_sem, gb0, eq_self]; done) | omega | (simp only [gl1, gl2]; omega)) only [go_sem, ↓reduceIte, Nat.reduceEqDiff, Nat.reduceAdd, Nat.reduceMul, Nat.reduceSub, Int.reduceToNat, Nat.reduceBEq, s7], by simp (disch := first | (simp only [go_sem, gb0, eq_self]; done) | omega | (simp only [gl1, gl2]; omega)) only [go_sem, ↓reduceIte, Nat.reduceEqDiff, Nat.reduceAdd, Nat.reduceMul, Nat.reduceSub, Int.reduceToNat, Nat.reduceBEq, s8], by simp (disch := first | (simp only [go_sem, gb0, eq_self]; done) | omega | (simp only [gl1, gl2]; omega)) only [go_sem, ↓reduceIte, Nat.reduceEqDiff, Nat.reduceAdd, Nat.reduceMul, Nat.reduceSub, Int.reduceToNat, Nat.reduceBEq, htk]; try rfl⟩
    | true =>
      rw [hb, Bool.true_and] at htk
      rw [hb] at s9
      simp (disch := first | (simp only [go_sem, gb0, eq_self]; done) | omega | (simp only [gl1, gl2]; omega)) only [go_sem, ↓reduceIte, Nat.reduceEqDiff, Nat.reduceAdd, Nat.reduceMul, Nat.reduceSub, Int.reduceToNat, Nat.reduceBEq, s0, s1, s2, s7, s8, s9, s10, hCL, hRL, hll, hll', hlt, hkl, hlt', hkl', n1, n2, n3, a1, a2, b1, b2]
      rw [ForK_normal]
      exact ⟨hll, by simp (disch := first | (simp only [go_sem, gb0, eq_self]; done) | omega | (simp only [gl1, gl2]; omega)) only [go_sem, ↓reduceIte, Nat.reduceEqDiff, Nat.reduceAdd, Nat.reduceMul, Nat.reduceSub, Int.reduceToNat, Nat.reduceBEq, s10], by simp (disch := first | (simp only [go_sem, gb0, eq_self]; done) | omega | (simp only [gl1, gl2]; omega)) only [go_sem, ↓reduceIte, Nat.reduceEqDiff, Nat.reduceAdd, Nat.reduceMul, Nat.reduceSub, Int.reduceToNat, Nat.reduceBEq, s0], by simp (disch := first | (simp only [go_sem, gb0, eq_self]; done) | omega | (simp only [gl1, gl2]; omega)) only [go_sem, ↓reduceIte, Nat.reduceEqDiff, Nat.reduceAdd, Nat.reduceMul, Nat.reduceSub, Int.reduceToNat, Nat.reduceBEq, s1], by simp (disch := first | (simp only [go_sem, gb0, eq_self]; done) | omega | (simp only [gl1, gl2]; omega)) only [go_sem, ↓reduceIte, Nat.reduceEqDiff, Nat.reduceAdd, Nat.reduceMul, Nat.reduceSub, Int.reduceToNat, Nat.reduceBEq, s2], by simp (disch := first | (simp only [go_sem, gb0, eq_self]; done) | omega | (simp only [gl1, gl2]; omega)) only [go_sem, ↓reduceIte, Nat.reduceEqDiff, Nat.reduceAdd, Nat.reduceMul, Nat.reduceSub, Int.reduceToNat, Nat.reduceBEq, s7], by simp (disch := first | (simp only [go_sem, gb0, eq_self]; done) | omega | (simp only [gl1, gl2]; omega)) only [go_sem, ↓reduceIte, Nat.reduceEqDiff, Nat.reduceAdd, Nat.reduceMul, Nat.reduceSub, Int.reduceToNat, Nat.reduceBEq, s8], by simp (disch := first | (simp only [go_sem, gb0, eq_self]; done) | omega | (simp only [gl1, gl2]; omega)) only [go_sem, ↓reduceIte, Nat.reduceEqDiff, Nat.reduceAdd, Nat.reduceMul, Nat.reduceSub, Int.reduceToNat, Nat.reduceBEq, htk]; try rfl⟩
  clear s0 s1 s2 s7 s8
  rintro st h ⟨s0, s1, s2, s7, s8, s9⟩
  cases hd : domN a C (nth R i) (nth R k) with
  | true =>
    have h1 : isD a R C (nth R i) = true := by rw [isD, List.any_eq_true]; exact ⟨_, hkR, hd⟩
    have : dxI a R C = i := by rw [dxI, findI_at hlt h1 hn]
    rw [this]
    rw [hd] at s9
    simp (disch := first | (simp only [go_sem, gb0, eq_self]; done) | omega | (simp only [gl1, gl2]; omega)) only [go_sem, ↓reduceIte, Nat.reduceEqDiff, Nat.reduceAdd, Nat.reduceMul, Nat.reduceSub, Int.reduceToNat, Nat.reduceBEq, s0, s1, s2, s7, s8, s9]
  | false =>
    rw [hd] at s9
    simp (disch := first | (simp only [go_sem, gb0, eq_self]; done) | omega | (simp only [gl1, gl2]; omega)) only [go_sem, ↓reduceIte, Nat.reduceEqDiff, Nat.reduceAdd, Nat.reduceMul, Nat.reduceSub, Int.reduceToNat, Nat.reduceBEq, s0, s1, s2, s7, s8, s9]
    rw [ForK_normal]
    exact ⟨hkl, by simp (disch := first | (simp only [go_sem, gb0, eq_self]; done) | omega | (simp only [gl1, gl2]; omega)) only [go_sem, ↓reduceIte, Nat.reduceEqDiff, Nat.reduceAdd, Nat.reduceMul, Nat.reduceSub, Int.reduceToNat, Nat.reduceBEq, s8], by simp (disch := first | (simp only [go_sem, gb0, eq_self]; done) | omega | (simp only [gl1, gl2]; omega)) only [go_sem, ↓reduceIte, Nat.reduceEqDiff, Nat.reduceAdd, Nat.reduceMul, Nat.reduceSub, Int.reduceToNat, Nat.reduceBEq, s0], by simp (disch := first | (simp only [go_sem, gb0, eq_self]; done) | omega | (simp only [gl1, gl2]; omega)) only [go_sem, ↓reduceIte, Nat.reduceEqDiff, Nat.reduceAdd, Nat.reduceMul, Nat.reduceSub, Int.reduceToNat, Nat.reduceBEq, s1], by simp (disch := first | (simp only [go_sem, gb0, eq_self]; done) | omega | (simp only [gl1, gl2]; omega)) only [go_sem, ↓reduceIte, Nat.reduceEqDiff, Nat.reduceAdd, Nat.reduceMul, Nat.reduceSub, Int.reduceToNat, Nat.reduceBEq, s2], by simp (disch := first | (simp only [go_sem, gb0, eq_self]; done) | omega | (simp only [gl1, gl2]; omega)) only [go_sem, ↓reduceIte, Nat.reduceEqDiff, Nat.reduceAdd, Nat.reduceMul, Nat.reduceSub, Int.reduceToNat, Nat.reduceBEq, s7], fun y hy => by
      by_cases e : y = k
      · subst e; exact hd
      · exact hn2 y (by omega)⟩
theorem k60 {a : List (List Int)} {m n : Nat} (hl : a.length = m) (hr : ∀ i, i < m → (nth a i).length = n) (R C : List Nat) (hR : ∀ i ∈ R, i < m) (hC : ∀ j ∈ C, j < n) (hRl : R.length ≤ 100) (hCl : C.length ≤ 100) :
    ConW Try.prog cfg 60 h (some ([LLI a, LI (iL R), LI (iL C)], h')) K = K (I (dxI a R C)) h := ConW_num (f60_con hl hr R C hR hC hRl hCl) rfl
/-! ### without -/
theorem iL_take (R : List Nat) (k : Nat) : (iL R).take k = iL (R.take k) := by simp [iL, List.map_take]
theorem iL_drop (R : List Nat) (k : Nat) : (iL R).drop k = iL (R.drop k) := by simp [iL, List.map_drop]
theorem f61_con (R : List Nat) (k : Nat) (hk : k < R.length) (hR : R.length ≤ 100) : Con Try.prog cfg 61 [LI (iL R), I k] (LI (iL (R.take k ++ R.drop (k + 1)))) := by
  have hRL := iL_len R
  have h1 : iL (R.take k ++ R.drop (k + 1)) = iL (R.take k) ++ iL (R.drop (k + 1)) := by simp [iL]
  have l1 : (iL (R.take k)).length = k := by rw [iL_len, List.length_take]; omega
  have l2 : (iL (R.drop (k + 1))).length = R.length - (k + 1) := by rw [iL_len, List.length_drop]
  have t1 := iL_take R k
  have t2 := iL_drop R (k + 1)
  rw [h1]
  have happ1 := fun h => app_nil (P := Try.prog) (h := h) (f := e1 I) 3 8 (I 0) (LI (iL (R.take k))) (iL (R.take k)) isz3 ibytes3 izero3 rfl (cellsOf_L _ _) (lenA_L _ _) (by omega) (by omega)
  have htn : ((k : Int) + 1).toNat = k + 1 := by omega
  have o1 : Go.Am.Own (e1 I) 1 (Hp.empty.alloc (.cells false true ((iL (R.take k)).flatMap (e1 I)))) (.sl 0 0 (iL (R.take k)).length 1) (iL (R.take k)) := .inr ⟨0, rfl, Nat.lt_succ_self 0, rfl⟩
  have happ2 := app_Own (P := Try.prog) o1 3 8 (I 0) (LI (iL (R.drop (k + 1)))) (iL (R.drop (k + 1))) isz3 ibytes3 izero3 rfl (cellsOf_L _ _) (lenA_L _ _) (by omega) (by omega)
  refine Con_intro Try.func61 rfl ok61 (Nat.le_of_ble_eq_true rfl) rfl ?_
  simp only [Try.f61, Option.getD_some, initSt2]
  simp (disch := first | (simp only [go_sem, gb0, eq_self]; done) | omega | (simp only [gl1, gl2]; omega)) only [go_sem, ↓reduceIte, Nat.reduceEqDiff, Nat.reduceAdd, Nat.reduceMul, Nat.reduceSub, Int.reduceToNat, Nat.reduceBEq, hRL, t1, htn, t2, happ1, happ2]
  exact export_Own (f := e1 I) 31 (Own.app _ _ _)
theorem k61 (R : List Nat) (k : Nat) (hk : k < R.length) (hR : R.length ≤ 100) : ConW Try.prog cfg 61 h (some ([LI (iL R), I k], h')) K = K (LI (iL (R.take k ++ R.drop (k + 1)))) h' := by
  rw [ConW_any (f61_con R k hk hR) rfl]; rfl
theorem k59 (n : Nat) (hn : n ≤ 4) : ConW Try.prog cfg 59 h (some ([I n], h')) K = K (LI (iL (List.range n))) h' := by
  rw [ConW_any (f59_con n hn) rfl]; rfl
end Go.Proofs.Ytcdpkgmkckfonaa

set_option linter.unusedVariables false
set_option linter.unusedSimpArgs false
set_option maxRecDepth 10000
namespace Go.Proofs.Ytcdpkgmkckfonaa
open Go Go.Am

variable {h h' : Hp} {K : AV → Hp → Prop}

def cutAt (R : List Nat) (k : Nat) : List Nat := R.take k ++ R.drop (k + 1)
def restF (a t : List (List Int)) : Nat → List Nat → List Nat → List Nat × List Nat
  | 0, R, C => (R, C)
  | f + 1, R, C => match R.findIdx? (isD a R C) with
    | some i => restF a t f (cutAt R i) C
    | none => match C.findIdx? (isD t C R) with
      | some j => restF a t f R (cutAt C j)
      | none => (R, C)
theorem cutAt_len {R : List Nat} {k : Nat} (hk : k < R.length) : (cutAt R k).length + 1 = R.length := by
  rw [cutAt, List.length_append, List.length_take, List.length_drop]; omega
theorem cutAt_mem {R : List Nat} {k x : Nat} (h : x ∈ cutAt R k) : x ∈ R := by
  rw [cutAt, List.mem_append] at h
  rcases h with h | h
  · exact List.mem_of_mem_take h
  · exact List.mem_of_mem_drop h
theorem findI_lt {p : Nat → Bool} {l : List Nat} {i : Nat} (h : l.findIdx? p = some i) : i < l.length := (List.findIdx?_eq_some_iff_getElem.1 h).1
def restR (a t : List (List Int)) (m n : Nat) : List Nat × List Nat := restF a t (m + n) (List.range m) (List.range n)
theorem f29_con {a b : List (List Int)} {m n : Nat} (T : Tb a m n) (T' : Tb b m n) : Con Try.prog cfg 29 [LLI a, LLI b] (.tup [LI (iL (restR a (turnL b m n) m n).1), LI (iL (restR a (turnL b m n) m n).2)]) := by
  have hm1 := T.m1
  have hm4 := T.m4
  have hn1 := T.n1
  have hn4 := T.n4
  have hl := T.len
  have hr0 := T.row 0 (by omega)
  have h0 : 0 < a.length := by omega
  have km := fun h h' K => k59 (h := h) (h' := h') (K := K) m hm4
  have kn := fun h h' K => k59 (h := h) (h' := h') (K := K) n hn4
  have kk50 := fun h h' K => k50 (h := h) (h' := h') (K := K) T'.rc
  have Tt := turnL_Tb T'
  obtain ⟨X, hX⟩ : ∃ X, restR a (turnL b m n) m n = X := ⟨_, rfl⟩
  rw [hX]
  rw [restR] at hX
  refine Con_intro Try.func29 rfl ok29 (Nat.le_of_ble_eq_true rfl) rfl ?_
  simp only [Try.f29, Option.getD_some, initSt2]
  simp (disch := first | (simp only [go_sem, gb0, eq_self]; done) | omega | (simp only [gl1, gl2]; omega)) only [go_sem, ↓reduceIte, Nat.reduceEqDiff, Nat.reduceAdd, Nat.reduceMul, Nat.reduceSub, Int.reduceToNat, Nat.reduceBEq, hl, h0, hr0, km, kn, kk50]
  generalize turnL b m n = t at *
  refine WP_loopK (fun q st h => ∃ R C : List Nat, q = R.length + C.length ∧ st 0 = LLI a ∧ st 8 = LLI t ∧ st 6 = LI (iL R) ∧ st 7 = LI (iL C) ∧ restF a t (R.length + C.length) R C = X ∧ (∀ i ∈ R, i < m) ∧ (∀ j ∈ C, j < n) ∧ R.length ≤ 4 ∧ C.length ≤ 4) (m + n)
    ⟨List.range m, List.range n, by simp, by simp (disch := first | (simp only [go_sem, gb0, eq_self]; done) | omega | (simp only [gl1, gl2]; omega)) only [go_sem, ↓reduceIte, Nat.reduceEqDiff, Nat.reduceAdd, Nat.reduceMul, Nat.reduceSub, Int.reduceToNat, Nat.reduceBEq], by simp (disch := first | (simp only [go_sem, gb0, eq_self]; done) | omega | (simp only [gl1, gl2]; omega)) only [go_sem, ↓reduceIte, Nat.reduceEqDiff, Nat.reduceAdd, Nat.reduceMul, Nat.reduceSub, Int.reduceToNat, Nat.reduceBEq], by simp (disch := first | (simp only [go_sem, gb0, eq_self]; done) | omega | (simp only [gl1, gl2]; omega)) only [go_sem, ↓reduceIte, Nat.reduceEqDiff, Nat.reduceAdd, Nat.reduceMul, Nat.reduceSub, Int.reduceToNat, Nat.reduceBEq], by simp (disch := first | (simp only [go_sem, gb0, eq_self]; done) | omega | (simp only [gl1, gl2]; omega)) only [go_sem, ↓reduceIte, Nat.reduceEqDiff, Nat.reduceAdd, Nat.reduceMul, Nat.reduceSub, Int.reduceToNat, Nat.reduceBEq], by simpa using hX, fun i hi => List.mem_range.1 hi, fun j hj => List.mem_range.1 hj, by simpa using hm4, by simpa using hn4⟩ ?_
  rintro q st h ⟨R, C, rfl, s0, s8, s6, s7, hq, hR, hC, hRl, hCl⟩
  have kr := fun h h' K => k60 (h := h) (h' := h') (K := K) T.len T.row R C hR hC (by omega) (by omega)
  have kc := fun h h' K => k60 (h := h) (h' := h') (K := K) Tt.len Tt.row C R hC hR (by omega) (by omega)
  cases hi : R.findIdx? (isD a R C) with
  | some i =>
    have hil := findI_lt hi
    have e1 : dxI a R C = i := by rw [dxI, hi]
    rw [e1] at kr
    have k61' := fun h h' K => k61 (h := h) (h' := h') (K := K) R i hil (by omega)
    have hlen := cutAt_len hil
    have i0 : (0 : Int) ≤ i := by omega
    have hq' : restF a t ((cutAt R i).length + C.length) (cutAt R i) C = X := by
      rw [show R.length + C.length = ((cutAt R i).length + C.length) + 1 by omega, restF, hi] at hq
      exact hq
    simp (disch := first | (simp only [go_sem, gb0, eq_self]; done) | omega | (simp only [gl1, gl2]; omega)) only [go_sem, ↓reduceIte, Nat.reduceEqDiff, Nat.reduceAdd, Nat.reduceMul, Nat.reduceSub, Int.reduceToNat, Nat.reduceBEq, s0, s8, s6, s7, kr, k61', i0]
    rw [LoopK_normal]
    exact ⟨(cutAt R i).length + C.length, by omega, cutAt R i, C, rfl, by simp (disch := first | (simp only [go_sem, gb0, eq_self]; done) | omega | (simp only [gl1, gl2]; omega)) only [go_sem, ↓reduceIte, Nat.reduceEqDiff, Nat.reduceAdd, Nat.reduceMul, Nat.reduceSub, Int.reduceToNat, Nat.reduceBEq, s0], by simp (disch := first | (simp only [go_sem, gb0, eq_self]; done) | omega | (simp only [gl1, gl2]; omega)) only [go_sem, ↓reduceIte, Nat.reduceEqDiff, Nat.reduceAdd, Nat.reduceMul, Nat.reduceSub, Int.reduceToNat, Nat.reduceBEq, s8], by simp (disch := first | (simp only [go_sem, gb0, eq_self]; done) | omega | (simp only [gl1, gl2]; omega)) only [go_sem, ↓reduceIte, Nat.reduceEqDiff, Nat.reduceAdd, Nat.reduceMul, Nat.reduceSub, Int.reduceToNat, Nat.reduceBEq]; rfl, by simp (disch := first | (simp only [go_sem, gb0, eq_self]; done) | omega | (simp only [gl1, gl2]; omega)) only [go_sem, ↓reduceIte, Nat.reduceEqDiff, Nat.reduceAdd, Nat.reduceMul, Nat.reduceSub, Int.reduceToNat, Nat.reduceBEq, s7], hq', fun x hx => hR x (cutAt_mem hx), hC, by omega, hCl⟩
  | none =>
  have e1 : dxI a R C = -1 := by rw [dxI, hi]
  have m1 : ¬ (0 : Int) ≤ -1 := by decide
  have m2 : (-1 : Int) < 0 := by decide
  rw [e1] at kr
  cases hj : C.findIdx? (isD t C R) with
  | some j =>
    have hjl := findI_lt hj
    have e2 : dxI t C R = j := by rw [dxI, hj]
    rw [e2] at kc
    have k61' := fun h h' K => k61 (h := h) (h' := h') (K := K) C j hjl (by omega)
    have hlen := cutAt_len hjl
    have j0 : ¬ (j : Int) < 0 := by omega
    have hq' : restF a t (R.length + (cutAt C j).length) R (cutAt C j) = X := by
      rw [show R.length + C.length = (R.length + (cutAt C j).length) + 1 by omega, restF, hi, hj] at hq
      exact hq
    simp (disch := first | (simp only [go_sem, gb0, eq_self]; done) | omega | (simp only [gl1, gl2]; omega)) only [go_sem, ↓reduceIte, Nat.reduceEqDiff, Nat.reduceAdd, Nat.reduceMul, Nat.reduceSub, Int.reduceToNat, Nat.reduceBEq, s0, s8, s6, s7, kr, kc, k61', j0, m1]
    rw [LoopK_normal]
    exact ⟨R.length + (cutAt C j).length, by omega, R, cutAt C j, rfl, by simp (disch := first | (simp only [go_sem, gb0, eq_self]; done) | omega | (simp only [gl1, gl2]; omega)) only [go_sem, ↓reduceIte, Nat.reduceEqDiff, Nat.reduceAdd, Nat.reduceMul, Nat.reduceSub, Int.reduceToNat, Nat.reduceBEq, s0], by simp (disch := first | (simp only [go_sem, gb0, eq_self]; done) | omega | (simp only [gl1, gl2]; omega)) only [go_sem, ↓reduceIte, Nat.reduceEqDiff, Nat.reduceAdd, Nat.reduceMul, Nat.reduceSub, Int.reduceToNat, Nat.reduceBEq, s8], by simp (disch := first | (simp only [go_sem, gb0, eq_self]; done) | omega | (simp only [gl1, gl2]; omega)) only [go_sem, ↓reduceIte, Nat.reduceEqDiff, Nat.reduceAdd, Nat.reduceMul, Nat.reduceSub, Int.reduceToNat, Nat.reduceBEq, s6], by simp (disch := first | (simp only [go_sem, gb0, eq_self]; done) | omega | (simp only [gl1, gl2]; omega)) only [go_sem, ↓reduceIte, Nat.reduceEqDiff, Nat.reduceAdd, Nat.reduceMul, Nat.reduceSub, Int.reduceToNat, Nat.reduceBEq]; rfl, hq', hR, fun x hx => hC x (cutAt_mem hx), hRl, by omega⟩
  | none =>
    have e2 : dxI t C R = -1 := by rw [dxI, hj]
    rw [e2] at kc
    have hXe : X = (R, C) := by
      rw [← hq]
      cases hz : R.length + C.length with
      | zero => rfl
      | succ f => rw [restF, hi, hj]
    rw [hXe]
    simp (disch := first | (simp only [go_sem, gb0, eq_self]; done) | omega | (simp only [gl1, gl2]; omega)) only [go_sem, ↓reduceIte, Nat.reduceEqDiff, Nat.reduceAdd, Nat.reduceMul, Nat.reduceSub, Int.reduceToNat, Nat.reduceBEq, s0, s8, s6, s7, kr, kc, m1, m2]
end Go.Proofs.Ytcdpkgmkckfonaa

set_option linter.unusedVariables false
set_option linter.unusedSimpArgs false
set_option maxRecDepth 10000
namespace Go.Proofs.Ytcdpkgmkckfonaa
open Go Go.Am

variable {h h' : Hp} {K : AV → Hp → Prop} {c : Cfg} {ops : Array Oper} {lim : Option Nat} {st : St}

/-- What clear does. -/
def clrB (P : Program) (h : Hp) (u : Option TypeDesc) (x : AV) : Option (AV × Hp) :=
  match u, x with
  | some (.slice e), .sl id off n sz => match isz P e, izero P e, h.bl id with
    | some sz', some z, some (.cells false row flat) =>
      if sz' = sz ∧ 0 < sz ∧ z.cells.length = sz ∧ off + n * sz ≤ flat.length ∧ z.cells.all AV.isCell then
        some (.tup [], h.put id (some (.cells false row (setL flat off (List.replicate n z.cells).flatten)))) else none
    | _, _, _ => none
  | _, _ => none
@[go_sem ↓] theorem W_clear (x : Operand) (t : TypeId) : StepW Try.prog c ops lim (.call ⟨.builtin .clear, #[x], #[t]⟩) st h K = getW2 (clrB Try.prog h (Try.prog.underlying t) (ev st x)) K := by
  refine StepW_writeOp ?_ rfl ?_ rfl fun _ => rfl
  · simp only [opWrite, clrB, List.getElem?_toArray, List.getElem?_cons_zero, Option.map_some]
    cases ev st x <;> dsimp only <;> generalize Try.prog.underlying t = u <;> cases u <;> try rfl
    all_goals (rename_i d; cases d <;> rfl)
  · simp only [opRead, List.getElem?_toArray, List.getElem?_cons_zero, Option.map_some, Option.bind_some]
theorem seal_part {id n : Nat} {fz : Bool} {L : List Int} (hb : h.bl id = some (.cells fz true (L.flatMap (e1 I)))) (hn : n ≤ L.length) : sealA h (.sl id 0 n 1) = some (LI (L.take n), h.put id (some (.cells true true (L.flatMap (e1 I))))) := by
  have hp : AV.pureL (L.flatMap (e1 I)) = true := pureL_flatMap L
  have hl : (L.flatMap (e1 I)).length = L.length := by rw [flat_len]
  rw [sealA_sl, hb]
  simp only [sealSl, hp, if_true, hl]
  rw [if_pos ⟨by omega, by decide⟩]
  have e : ((L.flatMap (e1 I)).drop 0).take (n * 1) = (L.take n).flatMap (e1 I) := by
    rw [List.drop_zero, Nat.mul_one]
    have : ∀ (L : List Int) (n : Nat), (L.flatMap (e1 I)).take n = (L.take n).flatMap (e1 I) := by
      intro L
      induction L with
      | nil => intro n; simp
      | cons x L ih =>
        intro n
        cases n with
        | zero => rfl
        | succ n => rw [List.flatMap_cons, List.take_succ_cons, List.flatMap_cons]; show (I x :: (L.flatMap (e1 I))).take (n + 1) = I x :: ((L.take n).flatMap (e1 I)); rw [List.take_succ_cons, ih n]
    exact this L n
  rw [e, chunk_flatMap]
theorem f57_con (x y : Int) : Con Try.prog cfg 57 [I x, .pp [I y]] (.bool (decide (x = y))) := by
  refine Con_intro Try.func57 rfl ok57 (Nat.le_of_ble_eq_true rfl) rfl ?_
  simp only [Try.f57, Option.getD_some, initSt2]
  simp (disch := first | (simp only [go_sem, gb0, eq_self]; done) | omega | (simp only [gl1, gl2]; omega)) only [go_sem, ↓reduceIte, Nat.reduceEqDiff, Nat.reduceAdd, Nat.reduceMul, Nat.reduceSub, Int.reduceToNat, Nat.reduceBEq]
theorem f58_con (x y : Int) : Con Try.prog cfg 58 [I x, .pp [I y]] (.bool (decide (x = y))) := by
  refine Con_intro Try.func58 rfl ok58 (Nat.le_of_ble_eq_true rfl) rfl ?_
  simp only [Try.f58, Option.getD_some, initSt2]
  simp (disch := first | (simp only [go_sem, gb0, eq_self]; done) | omega | (simp only [gl1, gl2]; omega)) only [go_sem, ↓reduceIte, Nat.reduceEqDiff, Nat.reduceAdd, Nat.reduceMul, Nat.reduceSub, Int.reduceToNat, Nat.reduceBEq]
end Go.Proofs.Ytcdpkgmkckfonaa
