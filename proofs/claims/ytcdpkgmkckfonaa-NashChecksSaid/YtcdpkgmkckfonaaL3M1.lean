/-
  Rules for fractions.
  Families of sets of labels: two cycles have an even number of complementary pairs.
  Sums, and integer vectors: relations and solutions.
  Determinants: columns, Cramer's rule, bounds.
  Numbers: within, gcd, reduced; the reference's.
  Systems of constraints in general position: the sets of tight constraints at the corners are a cycle.
  Determinants, column by column, with the columns that are still free.
  determinant: the closure and the method.
  Two tables of positive numbers: there are corners of both sides whose labels are complementary.
  Tables; label.
  turned, negative.
  IndexFunc, ContainsFunc; what is a table, what is a game.
  sharesOf, mixes, fractions.
  gains, Max, isBest, gain, mixes, fractions.
  mixes, fractions, Check, Gains.
-/
import Derived.Test.YtcdpkgmkckfonaaL3Facts
import Derived.Test.YtcdpkgmkckfonaaAmEnd
import Derived.Test.YtcdpkgmkckfonaaAmMap
import Derived.Test.YtcdpkgmkckfonaaAmMore
import Derived.Test.YtcdpkgmkckfonaaAmFor
set_option linter.unusedVariables false
set_option linter.unusedSimpArgs false
set_option maxRecDepth 10000
namespace Go.Proofs.Ytcdpkgmkckfonaa
open Go Go.Am

variable {c : Cfg} {h h' : Hp} {K : AV → Hp → Prop} {ops : Array Oper} {lim : Option Nat} {st : St}

@[go_sem ↓ high] theorem W_b28z : StepW Try.prog c ops lim (.build 28 #[]) st h K = K (.agg [I 0, I 0]) h := by
  rw [W_build, show buildB Try.prog (Try.prog.underlying 28) (izero Try.prog 28) ((#[] : Array (Nat × Operand)).toList.map fun p => (p.1, ev st p.2)) = some (.agg [I 0, I 0]) by kernel_rfl]
  exact getW_some _
/-- Two numbers, as a fraction. -/
noncomputable def mk28 (x y : AV) : Option AV := buildB Try.prog (Try.prog.underlying 28) (izero Try.prog 28) [(0, x), (1, y)]
@[go_sem ↓ high] theorem W_b28 (a b : Operand) : StepW Try.prog c ops lim (.build 28 #[(0, a), (1, b)]) st h K = getW (mk28 (ev st a) (ev st b)) h K := by
  rw [W_build]; rfl
@[go_sem] theorem mk28_I (x y : Int) : mk28 (I x) (I y) = some (.agg [I x, I y]) := by kernel_rfl
noncomputable def eq28 (x y : AV) : Option AV := binA Try.prog .eql 28 x y
noncomputable def ne28 (x y : AV) : Option AV := binA Try.prog .neq 28 x y
@[go_sem ↓ high] theorem W_eq28 (x y : Operand) (z) : StepW Try.prog c ops lim (.binOp .eql 28 x y z) st h K = getW (eq28 (ev st x) (ev st y)) h K := StepW_pureOp rfl rfl rfl rfl fun _ => rfl
@[go_sem ↓ high] theorem W_ne28 (x y : Operand) (z) : StepW Try.prog c ops lim (.binOp .neq 28 x y z) st h K = getW (ne28 (ev st x) (ev st y)) h K := StepW_pureOp rfl rfl rfl rfl fun _ => rfl
@[go_sem] theorem eq28_I (a b c d : Int) : eq28 (.agg [I a, I b]) (.agg [I c, I d]) = some (.bool (decide (a = c) && decide (b = d))) := by
  have : eq28 (.agg [I a, I b]) (.agg [I c, I d]) = some (.bool ((a == c && (b == d && true)) == true)) := by kernel_rfl
  rw [this]; simp [Bool.beq_eq_decide_eq]
@[go_sem] theorem ne28_I (a b c d : Int) : ne28 (.agg [I a, I b]) (.agg [I c, I d]) = some (.bool (!(decide (a = c) && decide (b = d)))) := by
  have : ne28 (.agg [I a, I b]) (.agg [I c, I d]) = some (.bool ((a == c && (b == d && true)) == false)) := by kernel_rfl
  rw [this]; simp [Bool.beq_eq_decide_eq]

@[go_sem] theorem storeC_w2 (id : Nat) (row : Bool) (a b x y : AV) : storeC h id 0 2 (some (.cells false row [a, b])) [x, y] = if (x.isCell && y.isCell) = true then some (.skp, h.put id (some (.cells false row [x, y]))) else none := by
  simp [storeC, setL]
@[go_sem] theorem ev_nilmap : ev st (.const (.map none)) = .nilmp := rfl

/-! ### Results that lie in memory -/
def resC (P : Program) (h : Hp) (t : TypeId) : AV → Option AV
  | .ptr id off => loadC (P.underlying t) (isz P t) (cellsAt none h (.ptr id off))
  | _ => none
@[go_sem] theorem resC_ptr (P : Program) (t : TypeId) (id off : Nat) : resC P h t (.ptr id off) = loadC (P.underlying t) (isz P t) (cellsAt none h (.ptr id off)) := rfl
theorem resA_cell (P : Program) (a t : Nat) : resA P h st (.cell a t) = resC P h t (st a) := by
  simp only [resA]
  cases st a <;> try rfl
  rename_i id off
  simp only [resC, loadC, cellsAt, loadA_B]
  cases rd h none id <;> rfl
@[go_sem] theorem resR_c (P : Program) (a t : Nat) : resR P h st [.cell a t] = resC P h t (st a) := by
  simp only [resR, resL, resA_cell]; cases resC P h t (st a) <;> rfl
@[go_sem] theorem resR_ct (P : Program) (a t u : Nat) : resR P h st [.cell a t, .tmp u] = (resC P h t (st a)).bind fun v => some (.tup [v, st u]) := by
  simp only [resR, resL, resA_cell]; cases resC P h t (st a) <;> rfl
@[go_sem] theorem resR_cct (P : Program) (a t b t' u : Nat) : resR P h st [.cell a t, .cell b t', .tmp u] = (resC P h t (st a)).bind fun v => (resC P h t' (st b)).bind fun v' => some (.tup [v, v', st u]) := by
  simp only [resR, resL, resA_cell]; cases resC P h t (st a) <;> cases resC P h t' (st b) <;> rfl

@[go_sem] theorem wrOf_int (k : IntKind) (x : Int) (ps : List Nat) : wrOf (.int k x) ps st = wrX ps st := rfl
@[go_sem] theorem wrOf_skp (ps : List Nat) : wrOf .skp ps st = wrX ps st := rfl
@[go_sem] theorem wrOf_lst (xs : List (List AV)) (ps : List Nat) : wrOf (.lst xs) ps st = wrX ps st := rfl
theorem st0_skp (i : Nat) : st0 i = .skp := rfl
/-! ### A halt ahead of a region -/
def WPy (P : Program) (cfg : Cfg) (c : Code) (st : St) (h : Hp) (Q : Exit → St → Hp → Prop) : Prop := WP P cfg c st h Q
theorem WPy_congr {P : Program} {cfg : Cfg} {c : Code} {st st' : St} {h h' : Hp} {Q : Exit → St → Hp → Prop} (e : st = st') (e2 : h = h') : WPy P cfg c st h Q = WPy P cfg c st' h' Q := by rw [e, e2]
attribute [congr] WPy_congr
theorem stopY (n : Nat) (d : Bool) {P : Program} {cfg : Cfg} {ops : Array Oper} {st : St} {h : Hp} {Q : Exit → St → Hp → Prop} : WP P cfg (.region n ops d) st h Q = WPy P cfg (.region n ops d) st h Q := rfl
theorem WPy_go {P : Program} {cfg : Cfg} {c : Code} {st : St} {h : Hp} {Q : Exit → St → Hp → Prop} (F : St → Hp → Prop) (hF : F st h) (hw : ∀ st h, F st h → WP P cfg c st h Q) : WPy P cfg c st h Q := hw st h hF
/-- A contract whose answer the walk itself finds. -/
def RetE (P : Program) (S : AV → Prop) (ow kn : Bool) (rs : List ResultVar) (ts : List TypeId) : Exit → St → Hp → Prop := fun x st h => ∃ r, S r ∧ RetK P ow kn rs ts r x st h
theorem Con_introE {P : Program} {cfg : Cfg} {S : AV → Prop} {f : FuncId} {fn : Func} {args : List AV} (hf : P.funcs[f]? = some fn) (hbody : fn.body.isSome = true) (hok : funcOk cfg fn (fn.body.getD .skip) = true) (hl : args.length ≤ fn.ntmps) (hext : cfg.ext f args = none)
    (hw : WP P cfg (fn.body.getD .skip) (initSt args) Hp.empty (RetE P S (cfg.own f) (cfg.keepNil f) fn.results.toList fn.resultTypes.toList)) : ∃ r, S r ∧ Con P cfg f args r := by
  obtain ⟨k, x, st', h', e, r, hs, hr⟩ := hw
  exact ⟨r, hs, Con_intro hf hbody hok hl hext ⟨k, x, st', h', e, hr⟩⟩
end Go.Proofs.Ytcdpkgmkckfonaa

set_option linter.unusedVariables false
set_option linter.unusedSimpArgs false
namespace Go.Proofs.Ytcdpkgmkckfonaa
open Go Go.Am

/-- Whether a label is in a set. -/
def onB (s : List Bool) (l : Nat) : Bool := (s[l]?).getD false
theorem onB_set (s : List Bool) (t l : Nat) (h : t < s.length) : onB (s.set t true) l = (onB s l || decide (l = t)) := by
  unfold onB
  rw [List.getElem?_set]
  by_cases e : t = l
  · subst e; simp [h]
  · simp [e, Ne.symm e]
/-- How many labels a set has. -/
def cardB (s : List Bool) : Nat := s.count true
theorem cardB_cons (b : Bool) (s : List Bool) : cardB (b :: s) = cardB s + (if b then 1 else 0) := by
  cases b <;> simp [cardB]
end Go.Proofs.Ytcdpkgmkckfonaa

set_option linter.unusedVariables false
set_option linter.unusedSimpArgs false
namespace Go.Proofs.Ytcdpkgmkckfonaa
open Go Go.Am

theorem sumN_le {f g : Nat → Int} : ∀ {n : Nat}, (∀ i, i < n → f i ≤ g i) → sumN f n ≤ sumN g n
  | 0, _ => by simp [sumN]
  | n + 1, h => by rw [sumN, sumN]; have := sumN_le fun i hi => h i (Nat.lt_succ_of_lt hi); have := h n (by omega); omega
theorem sumN_add (f g : Nat → Int) : ∀ n, sumN (fun i => f i + g i) n = sumN f n + sumN g n
  | 0 => rfl
  | n + 1 => by rw [sumN, sumN, sumN, sumN_add f g n]; omega
theorem sumN_mul (c : Int) (f : Nat → Int) : ∀ n, sumN (fun i => c * f i) n = c * sumN f n
  | 0 => by simp [sumN]
  | n + 1 => by rw [sumN, sumN, sumN_mul c f n, Int.mul_add]
theorem sumN_zero : ∀ n, sumN (fun _ => 0) n = 0
  | 0 => rfl
  | n + 1 => by rw [sumN, sumN_zero n]; rfl
theorem sumN_zero' {f : Nat → Int} {n : Nat} (h : ∀ i, i < n → f i = 0) : sumN f n = 0 := by
  rw [sumN_congr h]; exact sumN_zero n
theorem sumN_swap (f : Nat → Nat → Int) (m : Nat) : ∀ n, sumN (fun i => sumN (fun j => f i j) m) n = sumN (fun j => sumN (fun i => f i j) n) m
  | 0 => by simp only [sumN]; exact (sumN_zero m).symm
  | n + 1 => by simp only [sumN]; rw [sumN_swap f m n, ← sumN_add]
theorem sumN_single {f : Nat → Int} {k : Nat} : ∀ {n : Nat}, k < n → (∀ j, j < n → j ≠ k → f j = 0) → sumN f n = f k := by
  intro n
  induction n with
  | zero => intro h; omega
  | succ n ih =>
    intro hk h0
    rw [sumN]
    by_cases h : k < n
    · rw [ih h fun j hj => h0 j (by omega), h0 n (by omega) (by omega), Int.add_zero]
    · obtain rfl : n = k := by omega
      rw [sumN_zero' fun j hj => h0 j (by omega) (by omega), Int.zero_add]
/-- The number of a column once column j is gone. -/
def skp (j c : Nat) : Nat := if c < j then c else c + 1
theorem skp_ne (j c : Nat) : skp j c ≠ j := by unfold skp; split <;> omega
theorem skp_lt {j c n : Nat} (hc : c < n) : skp j c < n + 1 := by unfold skp; split <;> omega
theorem skp_inj {j a b : Nat} (h : skp j a = skp j b) : a = b := by unfold skp at h; split at h <;> split at h <;> omega
/-- Where column k is, once column j is gone. -/
def unskp (j k : Nat) : Nat := if k < j then k else k - 1
theorem skp_unskp {j k : Nat} (h : j ≠ k) : skp j (unskp j k) = k := by
  unfold skp unskp
  by_cases h1 : k < j
  · simp [h1]
  · simp only [h1, if_false]; rw [if_neg (by omega)]; omega
theorem unskp_lt {j k n : Nat} (h : j ≠ k) (hj : j < n + 1) (hk : k < n + 1) : unskp j k < n := by unfold unskp; split <;> omega
theorem sumN_skp (f : Nat → Int) {j : Nat} : ∀ {n : Nat}, j ≤ n → sumN (fun c => f (skp j c)) n + f j = sumN f (n + 1) := by
  intro n
  induction n with
  | zero => intro h; obtain rfl : j = 0 := by omega
            simp [sumN]
  | succ n ih =>
    intro h
    by_cases hj : j ≤ n
    · have e : skp j n = n + 1 := by rw [skp, if_neg (by omega)]
      have := ih hj
      rw [sumN, e]
      show _ = sumN f (n + 1) + f (n + 1)
      omega
    · obtain rfl : j = n + 1 := by omega
      have : sumN (fun c => f (skp (n + 1) c)) (n + 1) = sumN f (n + 1) := sumN_congr fun c hc => by rw [skp, if_pos hc]
      rw [this]; rfl

/-- One vector more than there are coordinates: there is a relation. -/
theorem relate : ∀ (m : Nat) (v : Nat → Nat → Int), ∃ a : Nat → Int, (∃ k, k < m + 1 ∧ a k ≠ 0) ∧ ∀ i, i < m → sumN (fun k => a k * v k i) (m + 1) = 0
  | 0, v => ⟨fun _ => 1, ⟨0, by omega, by decide⟩, fun i hi => by omega⟩
  | m + 1, v => by
    by_cases h : ∃ p, p < m + 2 ∧ v p m ≠ 0
    · obtain ⟨p, hp, hv⟩ := h
      obtain ⟨b, ⟨k, hk, hb⟩, h0⟩ := relate m fun c i => v p m * v (skp p c) i - v (skp p c) m * v p i
      have hs := fun i => sumN_skp (fun q => (if q = p then - sumN (fun c => b c * v (skp p c) m) (m + 1) else v p m * b (unskp p q)) * v q i) (j := p) (n := m + 1) (by omega)
      have hu : ∀ c, unskp p (skp p c) = c := fun c => skp_inj (skp_unskp (Ne.symm (skp_ne p c)))
      have hs' : ∀ i, sumN (fun c => v p m * b c * v (skp p c) i) (m + 1) - sumN (fun c => b c * v (skp p c) m) (m + 1) * v p i = sumN (fun q => (if q = p then - sumN (fun c => b c * v (skp p c) m) (m + 1) else v p m * b (unskp p q)) * v q i) (m + 1 + 1) := fun i => by
        rw [← hs i, if_pos rfl, sumN_congr (f := fun c => v p m * b c * v (skp p c) i) (g := fun c => (if skp p c = p then - sumN (fun c => b c * v (skp p c) m) (m + 1) else v p m * b (unskp p (skp p c))) * v (skp p c) i) fun c hc => by
          rw [if_neg (skp_ne p c), hu]]
        grind
      refine ⟨fun q => if q = p then - sumN (fun c => b c * v (skp p c) m) (m + 1) else v p m * b (unskp p q), ⟨skp p k, skp_lt hk, ?_⟩, fun i hi => ?_⟩
      · show (if skp p k = p then _ else _) ≠ (0 : Int)
        rw [if_neg (skp_ne p k), hu]; exact Int.mul_ne_zero hv hb
      · rw [← hs' i]
        by_cases him : i = m
        · subst him
          rw [sumN_congr (g := fun c => v p i * (b c * v (skp p c) i)) fun c _ => by grind, sumN_mul]
          grind
        · have h2 := h0 i (by omega)
          have h3 : sumN (fun c => b c * (v p m * v (skp p c) i - v (skp p c) m * v p i)) (m + 1) = sumN (fun c => v p m * b c * v (skp p c) i) (m + 1) + sumN (fun c => (- v p i) * (b c * v (skp p c) m)) (m + 1) := by
            rw [← sumN_add]; exact sumN_congr fun c _ => by grind
          rw [h3, sumN_mul] at h2
          grind
    · obtain ⟨b, ⟨k, hk, hb⟩, h0⟩ := relate m v
      refine ⟨fun k => if k < m + 1 then b k else 0, ⟨k, by omega, by simp [hk, hb]⟩, fun i hi => ?_⟩
      rw [sumN]
      simp only [Nat.lt_irrefl, if_false, Int.zero_mul, Int.add_zero]
      by_cases him : i = m
      · subst him
        exact sumN_zero' fun q hq => by
          have : v q i = 0 := Classical.byContradiction fun hh => h ⟨q, by omega, hh⟩
          rw [this, Int.mul_zero]
      · rw [← h0 i (by omega)]
        exact sumN_congr fun q hq => by rw [if_pos hq]
end Go.Proofs.Ytcdpkgmkckfonaa

set_option linter.unusedVariables false
set_option linter.unusedSimpArgs false
set_option maxRecDepth 10000
namespace Go.Proofs.Ytcdpkgmkckfonaa
open Go Go.Am

abbrev Mat := Nat → Nat → Int
def sg (j : Nat) : Int := if j % 2 = 0 then 1 else -1
theorem sg_succ (j : Nat) : sg (j + 1) = - sg j := by
  unfold sg
  by_cases h : j % 2 = 0
  · rw [if_pos h, if_neg (by omega)]
  · rw [if_neg h, if_pos (by omega)]; rfl
def minorM (M : Mat) (j : Nat) : Mat := fun r c => M (r + 1) (skp j c)
def det : Nat → Mat → Int
  | 0, _ => 1
  | n + 1, M => sumN (fun j => sg j * M 0 j * det n (minorM M j)) (n + 1)
theorem det_congr {n : Nat} : ∀ {M N : Mat}, (∀ r c, r < n → c < n → M r c = N r c) → det n M = det n N := by
  induction n with
  | zero => intro M N h; rfl
  | succ n ih =>
    intro M N h
    refine sumN_congr fun j hj => ?_
    show sg j * M 0 j * det n (minorM M j) = sg j * N 0 j * det n (minorM N j)
    rw [h 0 j (by omega) hj, show det n (minorM M j) = det n (minorM N j) from ih fun r c hr hc => h (r + 1) (skp j c) (by omega) (skp_lt hc)]
/-! ### Bounds -/
def absI (x : Int) : Int := x.natAbs
theorem absI_mul (x y : Int) : absI (x * y) = absI x * absI y := by simp [absI, Int.natAbs_mul]
theorem absI_nonneg (x : Int) : 0 ≤ absI x := Int.natCast_nonneg _
theorem absI_sum (f : Nat → Int) : ∀ n, absI (sumN f n) ≤ sumN (fun j => absI (f j)) n
  | 0 => by simp [sumN, absI]
  | n + 1 => by
    have := absI_sum f n
    simp only [sumN]
    unfold absI at *
    omega
theorem sumN_mono {f : Nat → Int} {m n : Nat} (h : ∀ i, 0 ≤ f i) (hmn : m ≤ n) : sumN f m ≤ sumN f n := by
  obtain ⟨d, rfl⟩ : ∃ d, n = m + d := ⟨n - m, by omega⟩
  clear hmn
  induction d with
  | zero => exact Int.le_refl _
  | succ d ih =>
    rw [← Nat.add_assoc, sumN]
    have := h (m + d)
    omega
/-- Partial sums of the expansion are bounded as well. -/
theorem det_part {n : Nat} {B : Int} (hB : 0 ≤ B) (M : Mat) (h0 : sumN (fun c => absI (M 0 c)) (n + 1) ≤ B) (hm : ∀ j, j < n + 1 → absI (det n (minorM M j)) ≤ B ^ n) :
    ∀ m, m ≤ n + 1 → absI (sumN (fun j => sg j * M 0 j * det n (minorM M j)) m) ≤ B ^ (n + 1) := by
  intro m hmn
  have hp : 0 ≤ B ^ n := Int.pow_nonneg hB
  refine Int.le_trans (absI_sum _ _) ?_
  have h1 : sumN (fun j => absI (sg j * M 0 j * det n (minorM M j))) m ≤ sumN (fun j => B ^ n * absI (M 0 j)) m := sumN_le fun j hj => by
    rw [absI_mul, absI_mul]
    have : absI (sg j) = 1 := by unfold absI sg; split <;> rfl
    rw [this, Int.one_mul, Int.mul_comm]
    exact Int.mul_le_mul_of_nonneg_right (hm j (by omega)) (absI_nonneg _)
  rw [sumN_mul] at h1
  have h2 := sumN_mono (f := fun c => absI (M 0 c)) (fun i => absI_nonneg _) hmn
  have h3 : B ^ n * sumN (fun j => absI (M 0 j)) m ≤ B ^ n * B := Int.mul_le_mul_of_nonneg_left (by omega) hp
  rw [Int.pow_succ]
  omega
theorem det_bound {n : Nat} {B : Int} (hB : 0 ≤ B) : ∀ (M : Mat), (∀ r, r < n → sumN (fun c => absI (M r c)) n ≤ B) → absI (det n M) ≤ B ^ n := by
  induction n with
  | zero => intro M h; simp [det, absI]
  | succ n ih =>
    intro M h
    refine det_part hB M (h 0 (by omega)) (fun j hj => ih _ fun r hr => ?_) (n + 1) (Nat.le_refl _)
    have := sumN_skp (fun c => absI (M (r + 1) c)) (j := j) (n := n) (by omega)
    have h1 := h (r + 1) (by omega)
    have h2 := absI_nonneg (M (r + 1) j)
    show sumN (fun c => absI (M (r + 1) (skp j c))) n ≤ B
    omega
end Go.Proofs.Ytcdpkgmkckfonaa

set_option linter.unusedVariables false
set_option linter.unusedSimpArgs false
set_option maxRecDepth 10000
namespace Go.Proofs.Ytcdpkgmkckfonaa
open Go Go.Am Go.RowKit

variable {h h' : Hp} {K : AV → Hp → Prop}

def inB (n lo hi : Int) : Bool := decide (lo ≤ n) && decide (n ≤ hi)
theorem f65_con (n lo hi : Int) : Con Try.prog cfg 65 [I n, I lo, I hi] (.bool (inB n lo hi)) := by
  by_cases hc : lo ≤ n
  · have : inB n lo hi = decide (n ≤ hi) := by simp [inB, hc]
    rw [this]
    refine Con_intro Try.func65 rfl ok65 (Nat.le_of_ble_eq_true rfl) rfl ?_
    simp only [Try.f65, Option.getD_some, initSt3]
    simp (disch := first | (simp only [go_sem, gb0, eq_self]; done) | omega | (simp only [gl1, gl2]; omega)) only [go_sem, ↓reduceIte, Nat.reduceEqDiff, Nat.reduceAdd, Nat.reduceMul, Nat.reduceSub, Int.reduceToNat, Nat.reduceBEq, hc]
  · have : inB n lo hi = false := by simp [inB, hc]
    rw [this]
    refine Con_intro Try.func65 rfl ok65 (Nat.le_of_ble_eq_true rfl) rfl ?_
    simp only [Try.f65, Option.getD_some, initSt3]
    simp (disch := first | (simp only [go_sem, gb0, eq_self]; done) | omega | (simp only [gl1, gl2]; omega)) only [go_sem, ↓reduceIte, Nat.reduceEqDiff, Nat.reduceAdd, Nat.reduceMul, Nat.reduceSub, Int.reduceToNat, Nat.reduceBEq, hc]
@[go_sem] theorem k65 (n lo hi : Int) : ConW Try.prog cfg 65 h (some ([I n, I lo, I hi], h')) K = K (.bool (inB n lo hi)) h := ConW_num (f65_con n lo hi) rfl

def gcdI (a b : Int) : Int := (Int.gcd a b : Int)
theorem gcdI_step (a b : Int) : gcdI b (a.tmod b) = gcdI a b := by
  unfold gcdI
  rw [Int.gcd_comm a b]
  congr 1
  have h1 : b.gcd (a.tmod b) = b.natAbs.gcd (a.natAbs % b.natAbs) := by
    show b.natAbs.gcd (a.tmod b).natAbs = _
    rw [Int.natAbs_tmod]
  rw [h1, Nat.gcd_comm b.natAbs (a.natAbs % b.natAbs), ← Nat.gcd_rec]
  rfl
theorem gcdI_zero (a : Int) : gcdI a 0 = (a.natAbs : Int) := by
  unfold gcdI; rw [Int.gcd_zero_right]
theorem gcdI_pos {a b : Int} (hb : b ≠ 0) : 0 < gcdI a b := by
  unfold gcdI
  have : Int.gcd a b ≠ 0 := by rw [Ne, Int.gcd_eq_zero_iff]; omega
  omega
abbrev big : Int := 4611686018427387904
theorem tmod_lt_abs (x : Int) {y : Int} (hy : y ≠ 0) : (x.tmod y).natAbs < y.natAbs := by
  rw [Int.natAbs_tmod]; exact Nat.mod_lt _ (by omega)
theorem f81_con (a b : Int) (ha : -big ≤ a ∧ a ≤ big) (hb : -big ≤ b ∧ b ≤ big) : Con Try.prog cfg 81 [I a, I b] (I (gcdI a b)) := by
  refine Con_intro Try.func81 rfl ok81 (Nat.le_of_ble_eq_true rfl) rfl ?_
  simp only [Try.f81, Option.getD_some, initSt2]
  simp (disch := first | (simp only [go_sem, gb0, eq_self]; done) | omega | (simp only [gl1, gl2]; omega)) only [go_sem, ↓reduceIte, Nat.reduceEqDiff, Nat.reduceAdd, Nat.reduceMul, Nat.reduceSub, Int.reduceToNat, Nat.reduceBEq]
  refine WP_cut (fun st h => ∃ x : Int, -big ≤ x ∧ x ≤ big ∧ (x.natAbs : Int) = gcdI a b ∧ st 0 = I x) ?_ ?_
  · refine WP_loopK (fun m st h => ∃ x y : Int, m = y.natAbs ∧ -big ≤ x ∧ x ≤ big ∧ -big ≤ y ∧ y ≤ big ∧ gcdI x y = gcdI a b ∧ st 0 = I x ∧ st 1 = I y) b.natAbs
      ⟨a, b, rfl, ha.1, ha.2, hb.1, hb.2, rfl, by simp (disch := first | (simp only [go_sem, gb0, eq_self]; done) | omega | (simp only [gl1, gl2]; omega)) only [go_sem, ↓reduceIte, Nat.reduceEqDiff, Nat.reduceAdd, Nat.reduceMul, Nat.reduceSub, Int.reduceToNat, Nat.reduceBEq], by simp (disch := first | (simp only [go_sem, gb0, eq_self]; done) | omega | (simp only [gl1, gl2]; omega)) only [go_sem, ↓reduceIte, Nat.reduceEqDiff, Nat.reduceAdd, Nat.reduceMul, Nat.reduceSub, Int.reduceToNat, Nat.reduceBEq]⟩ ?_
    rintro n st h ⟨x, y, rfl, hx0, hx1, hy0, hy1, hgg, s0, s1⟩
    by_cases hy : y = 0
    · subst hy
      rw [gcdI_zero] at hgg
      simp (disch := first | (simp only [go_sem, gb0, eq_self]; done) | omega | (simp only [gl1, gl2]; omega)) only [go_sem, ↓reduceIte, Nat.reduceEqDiff, Nat.reduceAdd, Nat.reduceMul, Nat.reduceSub, Int.reduceToNat, Nat.reduceBEq, s0, s1]
      exact ⟨x, hx0, hx1, hgg, rfl⟩
    have hlt := tmod_lt_abs x hy
    simp (disch := first | (simp only [go_sem, gb0, eq_self]; done) | omega | (simp only [gl1, gl2]; omega)) only [go_sem, ↓reduceIte, Nat.reduceEqDiff, Nat.reduceAdd, Nat.reduceMul, Nat.reduceSub, Int.reduceToNat, Nat.reduceBEq, s0, s1, hy]
    rw [LoopK_normal]
    exact ⟨(x.tmod y).natAbs, hlt, y, x.tmod y, rfl, hy0, hy1, by simp only [big] at *; omega, by simp only [big] at *; omega, (gcdI_step x y).trans hgg, by simp (disch := first | (simp only [go_sem, gb0, eq_self]; done) | omega | (simp only [gl1, gl2]; omega)) only [go_sem, ↓reduceIte, Nat.reduceEqDiff, Nat.reduceAdd, Nat.reduceMul, Nat.reduceSub, Int.reduceToNat, Nat.reduceBEq], by simp (disch := first | (simp only [go_sem, gb0, eq_self]; done) | omega | (simp only [gl1, gl2]; omega)) only [go_sem, ↓reduceIte, Nat.reduceEqDiff, Nat.reduceAdd, Nat.reduceMul, Nat.reduceSub, Int.reduceToNat, Nat.reduceBEq]⟩
  · rintro st h ⟨x, hx0, hx1, hx, s0⟩
    have e1 : max x (0 - x) = gcdI a b := by omega
    simp only [big] at hx0 hx1
    simp (disch := first | (simp only [go_sem, gb0, eq_self]; done) | omega | (simp only [gl1, gl2]; omega)) only [go_sem, ↓reduceIte, Nat.reduceEqDiff, Nat.reduceAdd, Nat.reduceMul, Nat.reduceSub, Int.reduceToNat, Nat.reduceBEq, s0, e1]
theorem k81 (a b : Int) (ha : -big ≤ a ∧ a ≤ big) (hb : -big ≤ b ∧ b ≤ big) : ConW Try.prog cfg 81 h (some ([I a, I b], h')) K = K (I (gcdI a b)) h := ConW_num (f81_con a b ha hb) rfl

/-- A fraction without a common divisor; its denominator is positive. -/
def rdP (a b : Int) : Int × Int := if b < 0 then (-a / gcdI a b, -b / gcdI a b) else (a / gcdI a b, b / gcdI a b)
abbrev FR (q : Int × Int) : AV := .agg [I q.1, I q.2]
theorem gcdI_neg (a b : Int) : gcdI (-a) (-b) = gcdI a b := by simp [gcdI]
theorem tdiv_gcd_l (a b : Int) : a.tdiv (gcdI a b) = a / gcdI a b := Int.tdiv_eq_ediv_of_dvd (Int.gcd_dvd_left a b)
theorem tdiv_gcd_r (a b : Int) : b.tdiv (gcdI a b) = b / gcdI a b := Int.tdiv_eq_ediv_of_dvd (Int.gcd_dvd_right a b)
theorem div_rng {a g : Int} (hg : 0 < g) (hd : g ∣ a) : -(a.natAbs : Int) ≤ a / g ∧ a / g ≤ a.natAbs := by
  obtain ⟨k, rfl⟩ := hd
  rw [Int.mul_ediv_cancel_left k (by omega)]
  have h1 : (g * k).natAbs = g.natAbs * k.natAbs := Int.natAbs_mul g k
  have h2 : k.natAbs ≤ g.natAbs * k.natAbs := Nat.le_mul_of_pos_left _ (by omega)
  rw [h1]; omega
theorem f71_con (a b : Int) (ha : -big ≤ a ∧ a ≤ big) (hb : 0 < b ∧ b ≤ big) : Con Try.prog cfg 71 [I a, I b] (FR (rdP a b)) := by
  have hg := gcdI_pos (a := a) (show b ≠ 0 by omega)
  have dl : gcdI a b ∣ a := Int.gcd_dvd_left a b
  have dr : gcdI a b ∣ b := Int.gcd_dvd_right a b
  have g0 : ¬ gcdI a b = 0 := by omega
  have r1 := div_rng hg dl
  have r2 := div_rng hg dr
  simp only [big] at ha hb
  have hr : rdP a b = (a / gcdI a b, b / gcdI a b) := by simp [rdP]; omega
  have kg := fun h h' K => k81 (h := h) (h' := h') (K := K) a b (by simp only [big]; omega) (by simp only [big]; omega)
  have t1 := tdiv_gcd_l a b
  have t2 := tdiv_gcd_r a b
  rw [hr]
  refine Con_intro Try.func71 rfl ok71 (Nat.le_of_ble_eq_true rfl) rfl ?_
  simp only [Try.f71, Option.getD_some, initSt2]
  simp (disch := first | (simp only [go_sem, gb0, eq_self]; done) | omega | (simp only [gl1, gl2]; omega)) only [go_sem, ↓reduceIte, Nat.reduceEqDiff, Nat.reduceAdd, Nat.reduceMul, Nat.reduceSub, Int.reduceToNat, Nat.reduceBEq, kg, t1, t2, g0]
  rfl
theorem k71 (a b : Int) (ha : -big ≤ a ∧ a ≤ big) (hb : 0 < b ∧ b ≤ big) : ConW Try.prog cfg 71 h (some ([I a, I b], h')) K = K (FR (rdP a b)) h := ConW_num (f71_con a b ha hb) rfl

/-! ### The reference's -/
theorem f48b_con (a b : Int) (ha : 0 ≤ a ∧ a ≤ 9223372036854775807) (hb : 0 ≤ b ∧ b ≤ 9223372036854775807) : Con Try.prog cfg 48 [I a, I b] (I (gcdI a b)) := by
  refine Con_intro Try.func48 rfl ok48 (Nat.le_of_ble_eq_true rfl) rfl ?_
  simp only [Try.f48, Option.getD_some, initSt2]
  simp (disch := first | (simp only [go_sem, gb0, eq_self]; done) | omega | (simp only [gl1, gl2]; omega)) only [go_sem, ↓reduceIte, Nat.reduceEqDiff, Nat.reduceAdd, Nat.reduceMul, Nat.reduceSub, Int.reduceToNat, Nat.reduceBEq]
  refine WP_loopK (fun m st h => ∃ x y : Int, m = y.toNat ∧ 0 ≤ x ∧ x ≤ 9223372036854775807 ∧ 0 ≤ y ∧ y ≤ 9223372036854775807 ∧ gcdI x y = gcdI a b ∧ st 0 = I x ∧ st 1 = I y) b.toNat
    ⟨a, b, rfl, ha.1, ha.2, hb.1, hb.2, rfl, by simp (disch := first | (simp only [go_sem, gb0, eq_self]; done) | omega | (simp only [gl1, gl2]; omega)) only [go_sem, ↓reduceIte, Nat.reduceEqDiff, Nat.reduceAdd, Nat.reduceMul, Nat.reduceSub, Int.reduceToNat, Nat.reduceBEq], by simp (disch := first | (simp only [go_sem, gb0, eq_self]; done) | omega | (simp only [gl1, gl2]; omega)) only [go_sem, ↓reduceIte, Nat.reduceEqDiff, Nat.reduceAdd, Nat.reduceMul, Nat.reduceSub, Int.reduceToNat, Nat.reduceBEq]⟩ ?_
  rintro n st h ⟨x, y, rfl, hx0, hx1, hy0, hy1, hgg, s0, s1⟩
  by_cases hy : 0 < y
  case neg =>
    obtain rfl : y = 0 := by omega
    rw [gcdI_zero] at hgg
    have : (x.natAbs : Int) = x := by omega
    rw [this] at hgg
    subst hgg
    have h00 : ¬ (0 : Int) < 0 := by decide
    simp (disch := first | (simp only [go_sem, gb0, eq_self]; done) | omega | (simp only [gl1, gl2]; omega)) only [go_sem, ↓reduceIte, Nat.reduceEqDiff, Nat.reduceAdd, Nat.reduceMul, Nat.reduceSub, Int.reduceToNat, Nat.reduceBEq, s0, s1, h00]
  have hy' : ¬ y = 0 := by omega
  have hm0 : 0 ≤ x.tmod y := Int.tmod_nonneg y hx0
  have hm1 : x.tmod y < y := Int.tmod_lt_of_pos x (by omega)
  simp (disch := first | (simp only [go_sem, gb0, eq_self]; done) | omega | (simp only [gl1, gl2]; omega)) only [go_sem, ↓reduceIte, Nat.reduceEqDiff, Nat.reduceAdd, Nat.reduceMul, Nat.reduceSub, Int.reduceToNat, Nat.reduceBEq, s0, s1, hy, hy']
  rw [LoopK_normal]
  exact ⟨(x.tmod y).toNat, by omega, y, x.tmod y, rfl, by omega, by omega, hm0, by omega, (gcdI_step x y).trans hgg, by simp (disch := first | (simp only [go_sem, gb0, eq_self]; done) | omega | (simp only [gl1, gl2]; omega)) only [go_sem, ↓reduceIte, Nat.reduceEqDiff, Nat.reduceAdd, Nat.reduceMul, Nat.reduceSub, Int.reduceToNat, Nat.reduceBEq], by simp (disch := first | (simp only [go_sem, gb0, eq_self]; done) | omega | (simp only [gl1, gl2]; omega)) only [go_sem, ↓reduceIte, Nat.reduceEqDiff, Nat.reduceAdd, Nat.reduceMul, Nat.reduceSub, Int.reduceToNat, Nat.reduceBEq]⟩
theorem k48 (a b : Int) (ha : 0 ≤ a ∧ a ≤ 9223372036854775807) (hb : 0 ≤ b ∧ b ≤ 9223372036854775807) : ConW Try.prog cfg 48 h (some ([I a, I b], h')) K = K (I (gcdI a b)) h := ConW_num (f48b_con a b ha hb) rfl
theorem gcdI_abs (a b : Int) (m : Int) (hm : (a.natAbs : Int) = m) : gcdI m b = gcdI a b := by
  subst hm; rfl
theorem f46_con (a b : Int) (ha : -big ≤ a ∧ a ≤ big) (hb : -big ≤ b ∧ b ≤ big) (hb0 : b ≠ 0) : Con Try.prog cfg 46 [I a, I b] (FR (rdP a b)) := by
  have hg := gcdI_pos (a := a) hb0
  have dl : gcdI a b ∣ a := Int.gcd_dvd_left a b
  have dr : gcdI a b ∣ b := Int.gcd_dvd_right a b
  have g0 : ¬ gcdI a b = 0 := by omega
  have r1 := div_rng hg dl
  have r2 := div_rng hg dr
  simp only [big] at ha hb
  by_cases hn : b < 0
  · have hr : rdP a b = (-a / gcdI a b, -b / gcdI a b) := by simp [rdP, hn]
    have hmx : max (0 - a) (0 - (0 - a)) = ((0 - a).natAbs : Int) := by omega
    have kg := fun h h' K => k48 (h := h) (h' := h') (K := K) (max (0 - a) (0 - (0 - a))) (0 - b) (by omega) (by omega)
    have e0 : gcdI (max (0 - a) (0 - (0 - a))) (0 - b) = gcdI a b := by rw [gcdI_abs (0 - a) (0 - b) _ hmx.symm, Int.zero_sub, Int.zero_sub, gcdI_neg]
    rw [e0] at kg
    have t1 : (0 - a).tdiv (gcdI a b) = -a / gcdI a b := by rw [Int.zero_sub, Int.tdiv_eq_ediv_of_dvd ((Int.dvd_neg).2 dl)]
    have t2 : (0 - b).tdiv (gcdI a b) = -b / gcdI a b := by rw [Int.zero_sub, Int.tdiv_eq_ediv_of_dvd ((Int.dvd_neg).2 dr)]
    have q1 := div_rng hg ((Int.dvd_neg).2 dl)
    have q2 := div_rng hg ((Int.dvd_neg).2 dr)
    rw [hr]
    refine Con_intro Try.func46 rfl ok46 (Nat.le_of_ble_eq_true rfl) rfl ?_
    simp only [Try.f46, Option.getD_some, initSt2]
    simp (disch := first | (simp only [go_sem, gb0, eq_self]; done) | omega | (simp only [gl1, gl2]; omega)) only [go_sem, ↓reduceIte, Nat.reduceEqDiff, Nat.reduceAdd, Nat.reduceMul, Nat.reduceSub, Int.reduceToNat, Nat.reduceBEq, hn, kg, t1, t2, g0]
    rfl
  · have hr : rdP a b = (a / gcdI a b, b / gcdI a b) := by simp [rdP, hn]
    have hmx : max a (0 - a) = (a.natAbs : Int) := by omega
    have kg := fun h h' K => k48 (h := h) (h' := h') (K := K) (max a (0 - a)) b (by omega) (by omega)
    rw [gcdI_abs a b _ hmx.symm] at kg
    have t1 := tdiv_gcd_l a b
    have t2 := tdiv_gcd_r a b
    rw [hr]
    refine Con_intro Try.func46 rfl ok46 (Nat.le_of_ble_eq_true rfl) rfl ?_
    simp only [Try.f46, Option.getD_some, initSt2]
    simp (disch := first | (simp only [go_sem, gb0, eq_self]; done) | omega | (simp only [gl1, gl2]; omega)) only [go_sem, ↓reduceIte, Nat.reduceEqDiff, Nat.reduceAdd, Nat.reduceMul, Nat.reduceSub, Int.reduceToNat, Nat.reduceBEq, hn, kg, t1, t2, g0]
    rfl
theorem k46 (a b : Int) (ha : -big ≤ a ∧ a ≤ big) (hb : -big ≤ b ∧ b ≤ big) (hb0 : b ≠ 0) : ConW Try.prog cfg 46 h (some ([I a, I b], h')) K = K (FR (rdP a b)) h := ConW_num (f46_con a b ha hb hb0) rfl
theorem f74_con (x : Int) (hx : -9223372036854775807 ≤ x ∧ x ≤ 9223372036854775807) : Con Try.prog cfg 74 [I x] (I (absI x)) := by
  have e : max x (0 - x) = absI x := by unfold absI; omega
  refine Con_intro Try.func74 rfl ok74 (Nat.le_of_ble_eq_true rfl) rfl ?_
  simp only [Try.f74, Option.getD_some, initSt1]
  simp (disch := first | (simp only [go_sem, gb0, eq_self]; done) | omega | (simp only [gl1, gl2]; omega)) only [go_sem, ↓reduceIte, Nat.reduceEqDiff, Nat.reduceAdd, Nat.reduceMul, Nat.reduceSub, Int.reduceToNat, Nat.reduceBEq, e]
def vldB (f : Int × Int) : Bool := decide (1 ≤ f.2) && decide (gcdI f.1 f.2 = 1)
theorem f47_con (f : Int × Int) (h2 : f.2 ≤ 9223372036854775807) : Con Try.prog cfg 47 [FR f] (.bool (vldB f)) := by
  have hal : ∀ (g : Hp) (x y : Int), allocB g (some (.agg [I x, I y])) = some (.ptr g.nx 0, g.alloc (.cells false false [I x, I y])) := fun g x y => allocB_agg _ rfl
  by_cases c1 : f.2 < 1
  · have hr : vldB f = false := by rw [vldB, decide_eq_false (show ¬ 1 ≤ f.2 by omega)]; rfl
    rw [hr]
    refine Con_intro Try.func47 rfl ok47 (Nat.le_of_ble_eq_true rfl) rfl ?_
    simp only [Try.f47, Option.getD_some, initSt1]
    simp (disch := first | (simp only [go_sem, gb0, eq_self]; done) | omega | (simp only [gl1, gl2]; omega)) only [go_sem, ↓reduceIte, Nat.reduceEqDiff, Nat.reduceAdd, Nat.reduceMul, Nat.reduceSub, Int.reduceToNat, Nat.reduceBEq, hal, c1]
  · have hr : vldB f = decide (gcdI f.1 f.2 = 1) := by rw [vldB, decide_eq_true (show 1 ≤ f.2 by omega)]; rfl
    have hm := tmod_lt_abs f.1 (show f.2 ≠ 0 by omega)
    have k74 := fun h h' K => ConW_num (h := h) (h' := h') (K := K) (f74_con (f.1.tmod f.2) (by omega)) rfl
    have e : gcdI f.2 (absI (f.1.tmod f.2)) = gcdI f.1 f.2 := by
      rw [← gcdI_step f.1 f.2]
      unfold gcdI absI
      congr 1
    have ha := absI_nonneg (f.1.tmod f.2)
    have k48' := fun h h' K => ConW_num (h := h) (h' := h') (K := K) (f48b_con f.2 (absI (f.1.tmod f.2)) (by omega) (by unfold absI at ha ⊢; omega)) rfl
    rw [e] at k48'
    have n0 : ¬ f.2 = 0 := by omega
    rw [hr]
    refine Con_intro Try.func47 rfl ok47 (Nat.le_of_ble_eq_true rfl) rfl ?_
    simp only [Try.f47, Option.getD_some, initSt1]
    simp (disch := first | (simp only [go_sem, gb0, eq_self]; done) | omega | (simp only [gl1, gl2]; omega)) only [go_sem, ↓reduceIte, Nat.reduceEqDiff, Nat.reduceAdd, Nat.reduceMul, Nat.reduceSub, Int.reduceToNat, Nat.reduceBEq, hal, c1, n0, k74, k48']

/-! ### Fractions that are equal -/
theorem gcdI_dvd (a b : Int) : gcdI a b ∣ a ∧ gcdI a b ∣ b := ⟨Int.gcd_dvd_left a b, Int.gcd_dvd_right a b⟩
end Go.Proofs.Ytcdpkgmkckfonaa

set_option linter.unusedVariables false
set_option linter.unusedSimpArgs false
namespace Go.Proofs.Ytcdpkgmkckfonaa
open Go Go.Am

/-- The labels of a set, in their order. -/
def posB : List Bool → Nat → Nat
  | [], _ => 0
  | true :: s, 0 => 0
  | true :: s, k + 1 => posB s k + 1
  | false :: s, k => posB s k + 1
theorem posB_lt : ∀ {s : List Bool} {k : Nat}, k < cardB s → posB s k < s.length ∧ onB s (posB s k) = true
  | [], k, h => by cases h
  | true :: s, 0, h => ⟨by simp [posB], rfl⟩
  | true :: s, k + 1, h => by
    have := posB_lt (s := s) (k := k) (by rw [cardB_cons] at h; simp at h; omega)
    exact ⟨by simp only [posB, List.length_cons]; omega, this.2⟩
  | false :: s, k, h => by
    have := posB_lt (s := s) (k := k) (by rw [cardB_cons] at h; simp at h; omega)
    exact ⟨by simp only [posB, List.length_cons]; omega, this.2⟩
theorem posB_inj : ∀ {s : List Bool} {k q : Nat}, k < cardB s → q < cardB s → posB s k = posB s q → k = q
  | [], k, q, h, _, _ => by cases h
  | true :: s, 0, 0, _, _, _ => rfl
  | true :: s, 0, q + 1, _, _, h => by simp [posB] at h
  | true :: s, k + 1, 0, _, _, h => by simp [posB] at h
  | true :: s, k + 1, q + 1, h1, h2, h => by
    rw [cardB_cons] at h1 h2; simp at h1 h2
    have := posB_inj (s := s) (k := k) (q := q) (by omega) (by omega) (by simpa [posB] using h)
    omega
  | false :: s, k, q, h1, h2, h => by
    rw [cardB_cons] at h1 h2; simp at h1 h2
    exact posB_inj (s := s) (k := k) (q := q) (by omega) (by omega) (by simpa [posB] using h)
/-- Numbers at the labels of a set. -/
def spr (s : List Bool) (b : Nat → Int) (l : Nat) : Int := sumN (fun k => if posB s k = l then b k else 0) (cardB s)
theorem spr_sum (s : List Bool) (b f : Nat → Int) : sumN (fun l => spr s b l * f l) s.length = sumN (fun k => b k * f (posB s k)) (cardB s) := by
  have e : ∀ l, l < s.length → spr s b l * f l = sumN (fun k => if posB s k = l then b k * f l else 0) (cardB s) := fun l _ => by
    unfold spr
    rw [Int.mul_comm, ← sumN_mul]
    refine sumN_congr fun k hk => ?_
    split
    · rw [Int.mul_comm]
    · rw [Int.mul_zero]
  rw [sumN_congr e, sumN_swap]
  refine sumN_congr fun k hk => ?_
  rw [sumN_single (posB_lt hk).1 fun j hj hne => if_neg (Ne.symm hne), if_pos rfl]
theorem spr_at {s : List Bool} {b : Nat → Int} {k : Nat} (hk : k < cardB s) : spr s b (posB s k) = b k := by
  unfold spr
  rw [sumN_single hk fun j hj hne => if_neg fun e => hne (posB_inj hj hk e), if_pos rfl]
theorem spr_off {s : List Bool} {b : Nat → Int} {l : Nat} (h : onB s l = false) : spr s b l = 0 :=
  sumN_zero' fun k hk => if_neg fun e => by rw [← e, (posB_lt hk).2] at h; cases h

abbrev Vec := Nat → Int
def dotI (m : Nat) (c x : Vec) : Int := sumN (fun i => c i * x i) m
/-- What a constraint leaves. -/
def gap (m : Nat) (C : Nat → Vec) (r : Vec) (x : Vec) (t : Int) (l : Nat) : Int := dotI m (C l) x - t * r l
/-- A relation of the rows at the labels of a set. -/
def Rel (m : Nat) (C : Nat → Vec) (s : List Bool) (a : Vec) : Prop :=
  (∃ l, l < s.length ∧ a l ≠ 0) ∧ (∀ l, onB s l = false → a l = 0) ∧ ∀ i, i < m → sumN (fun l => a l * C l i) s.length = 0
def Indep (m : Nat) (C : Nat → Vec) (s : List Bool) : Prop := ∀ a, ¬ Rel m C s a
section
variable {m : Nat} {C : Nat → Vec} {s : List Bool}
theorem Indep.rows (h : Indep m C s) (hc : cardB s = m) : ∀ a : Vec, (∀ i, i < m → sumN (fun k => a k * C (posB s k) i) m = 0) → ∀ k, k < m → a k = 0 := by
  intro a ha k hk
  refine Classical.byContradiction fun hn => h (spr s a) ⟨⟨posB s k, (posB_lt (by omega)).1, by rw [spr_at (by omega)]; exact hn⟩, fun l hl => spr_off hl, fun i hi => ?_⟩
  rw [spr_sum, hc]; exact ha i hi
/-- A vector orthogonal to all of them is zero. -/
theorem Indep.inj (h : Indep m C s) (hc : cardB s = m) {x : Vec} (hx : ∀ l, onB s l = true → dotI m (C l) x = 0) : ∀ i, i < m → x i = 0 := by
  intro k0 hk
  refine Classical.byContradiction fun ha => ?_
  match m, h, hc, hx, hk with
  | m + 1, h, hc, hx, hk =>
    obtain ⟨c, ⟨k1, hk1, hcn⟩, hz⟩ := relate m fun k i => C (posB s k) (skp k0 i)
    refine hcn (h.rows hc c (fun i hi' => ?_) k1 hk1)
    by_cases hik : i = k0
    · subst hik
      have e : sumN (fun k => c k * (sumN (fun q => C (posB s k) q * x q) (m + 1))) (m + 1) = 0 := sumN_zero' fun k hk => by
        have := hx (posB s k) (posB_lt (by omega)).2
        unfold dotI at this
        rw [this, Int.mul_zero]
      have e2 : ∀ k, k < m + 1 → c k * sumN (fun q => C (posB s k) q * x q) (m + 1) = sumN (fun q => c k * (C (posB s k) (skp i q) * x (skp i q))) m + x i * (c k * C (posB s k) i) := fun k _ => by
        rw [← sumN_skp (fun q => C (posB s k) q * x q) (j := i) (by omega), Int.mul_add, ← sumN_mul]; grind
      rw [sumN_congr e2, sumN_add, sumN_swap, sumN_mul] at e
      have e3 : sumN (fun q => sumN (fun k => c k * (C (posB s k) (skp i q) * x (skp i q))) (m + 1)) m = 0 := sumN_zero' fun q hq => by
        rw [sumN_congr (g := fun k => x (skp i q) * (c k * C (posB s k) (skp i q))) fun k _ => by grind, sumN_mul, hz q hq, Int.mul_zero]
      rw [e3, Int.zero_add] at e
      rcases Int.mul_eq_zero.1 e with h | h
      · exact absurd h ha
      · exact h
    · have := hz (unskp k0 i) (unskp_lt (Ne.symm hik) (by omega) hi')
      rw [skp_unskp (Ne.symm hik)] at this
      exact this
end
/-- A system of N constraints on m numbers, in general position. -/
structure Sys (m N : Nat) (C : Nat → Vec) (r : Vec) : Prop where
  lt : m < N
  ray : ∀ (d : Vec) (s : List Bool), s.length = N → cardB s = m → (∀ l, l < N → 0 ≤ dotI m (C l) d) → (∀ l, l < N → onB s l = true → dotI m (C l) d = 0) → ∀ l, l < N → dotI m (C l) d = 0
  gen : ∀ s : List Bool, s.length = N → (∃ a, Rel m C s a) → ∃ a, Rel m C s a ∧ sumN (fun l => a l * r l) N ≠ 0
/-- The constraints of s are tight at a point, and no others. -/
def Corner (N m : Nat) (C : Nat → Vec) (r : Vec) (s : List Bool) (x : Vec) (t : Int) : Prop :=
  ∀ l, l < N → if onB s l then gap m C r x t l = 0 else 0 < gap m C r x t l
section
variable {m N : Nat} {C : Nat → Vec} {r : Vec}
theorem Corner.on {s : List Bool} {x : Vec} {t : Int} (h : Corner N m C r s x t) {l : Nat} (hl : l < N) (ho : onB s l = true) : gap m C r x t l = 0 := by
  have := h l hl; rw [ho, if_pos rfl] at this; exact this
theorem Corner.off {s : List Bool} {x : Vec} {t : Int} (h : Corner N m C r s x t) {l : Nat} (hl : l < N) (ho : onB s l = false) : 0 < gap m C r x t l := by
  have := h l hl; rw [ho] at this; exact this
theorem Corner.nn {s : List Bool} {x : Vec} {t : Int} (h : Corner N m C r s x t) {l : Nat} (hl : l < N) : 0 ≤ gap m C r x t l := by
  cases ho : onB s l with
  | true => rw [h.on hl ho]; exact Int.le_refl _
  | false => exact Int.le_of_lt (h.off hl ho)
end
end Go.Proofs.Ytcdpkgmkckfonaa

set_option linter.unusedVariables false
set_option linter.unusedSimpArgs false
namespace Go.Proofs.Ytcdpkgmkckfonaa
open Go Go.Am

theorem posB_take : ∀ {s : List Bool} {c : Nat}, onB s c = true → posB s (cardB (s.take c)) = c
  | [], c, h => by simp [onB] at h
  | true :: s, 0, h => rfl
  | true :: s, c + 1, h => by
    rw [List.take_succ_cons, cardB_cons]
    show posB s (cardB (s.take c)) + 1 = c + 1
    rw [posB_take (s := s) (c := c) h]
  | false :: s, 0, h => by cases h
  | false :: s, c + 1, h => by
    rw [List.take_succ_cons, cardB_cons]
    show posB s (cardB (s.take c)) + 1 = c + 1
    rw [posB_take (s := s) (c := c) h]
theorem posB_skp : ∀ (s : List Bool) (j c : Nat), posB (s.set (posB s j) false) c = posB s (skp j c)
  | [], j, c => rfl
  | true :: s, 0, c => rfl
  | true :: s, j + 1, 0 => rfl
  | true :: s, j + 1, c + 1 => by
    show posB (s.set (posB s j) false) c + 1 = posB (true :: s) (skp (j + 1) (c + 1))
    have : skp (j + 1) (c + 1) = skp j c + 1 := by unfold skp; split <;> split <;> omega
    rw [this, posB_skp s j c]; rfl
  | false :: s, j, c => by
    show posB (s.set (posB s j) false) c + 1 = posB s (skp j c) + 1
    rw [posB_skp s j c]
theorem cardB_unset : ∀ {s : List Bool} {c : Nat}, onB s c = true → cardB (s.set c false) + 1 = cardB s
  | [], c, h => by simp [onB] at h
  | b :: s, 0, h => by
    have : b = true := h
    subst this; simp [cardB]
  | b :: s, c + 1, h => by
    have := cardB_unset (s := s) (c := c) h
    simp only [List.set_cons_succ, cardB_cons]; omega
theorem take_on {s : List Bool} {c : Nat} (h : c < s.length) : cardB (s.take (c + 1)) = cardB (s.take c) + (if onB s c then 1 else 0) := by
  rw [List.take_add_one, cardB, List.count_append]
  have e : onB s c = s[c] := by simp [onB, h]
  rw [e, List.getElem?_eq_getElem h]
  cases s[c] <;> simp [cardB]
/-- The determinant from a row on, of the columns that are free. -/
def detF (M : Mat) (row : Nat) (s : List Bool) : Int := det (cardB s) fun r c => M (row + r) (posB s c)
def termF (M : Mat) (row : Nat) (s : List Bool) (j : Nat) : Int := sg j * M row (posB s j) * detF M (row + 1) (s.set (posB s j) false)
/-- What the first columns give. -/
def prtF (M : Mat) (row : Nat) (s : List Bool) (c : Nat) : Int := sumN (termF M row s) (cardB (s.take c))
theorem minor_F {M : Mat} {row m : Nat} {s : List Bool} (hc : cardB s = m + 1) {j : Nat} (hj : j < m + 1) : detF M (row + 1) (s.set (posB s j) false) = det m (minorM (fun r c => M (row + r) (posB s c)) j) := by
  have h1 := cardB_unset (posB_lt (s := s) (k := j) (by omega)).2
  unfold detF
  rw [show cardB (s.set (posB s j) false) = m by omega]
  refine det_congr fun r c hr hc => ?_
  show M (row + 1 + r) (posB (s.set (posB s j) false) c) = M (row + (r + 1)) (posB s (skp j c))
  rw [posB_skp, show row + 1 + r = row + (r + 1) by omega]
theorem prtF_full {M : Mat} {row m : Nat} {s : List Bool} (hc : cardB s = m + 1) : prtF M row s s.length = detF M row s := by
  unfold prtF
  rw [List.take_of_length_le (Nat.le_refl _), hc]
  unfold detF
  rw [hc]
  refine sumN_congr fun j hj => ?_
  show termF M row s j = sg j * M (row + 0) (posB s j) * det m (minorM (fun r c => M (row + r) (posB s c)) j)
  rw [termF, minor_F hc hj]; rfl
theorem prtF_on {M : Mat} {row : Nat} {s : List Bool} {c : Nat} (h : c < s.length) (ho : onB s c = true) : prtF M row s (c + 1) = prtF M row s c + sg (cardB (s.take c)) * M row c * detF M (row + 1) (s.set c false) := by
  unfold prtF
  rw [take_on h, ho, if_pos rfl, sumN, termF, posB_take ho]
theorem prtF_off {M : Mat} {row : Nat} {s : List Bool} {c : Nat} (h : c < s.length) (ho : onB s c = false) : prtF M row s (c + 1) = prtF M row s c := by
  unfold prtF
  rw [take_on h, ho]; rfl
/-- Numbers up to 41, at most four of them in a row. -/
theorem rowF_sum {M : Mat} (hM : ∀ r c, absI (M r c) ≤ 41) {m : Nat} (hm : m ≤ 4) (row : Nat) (s : List Bool) (r : Nat) : sumN (fun c => absI ((fun r c => M (row + r) (posB s c) : Mat) r c)) m ≤ 164 := by
  have h1 := sumN_bounds (f := fun c => absI (M (row + r) (posB s c))) (lo := 0) (hi := 41) (n := m) fun i hi => ⟨absI_nonneg _, hM _ _⟩
  have : sumN (fun c => absI (M (row + r) (posB s c))) m ≤ 41 * m := h1.2
  show sumN (fun c => absI (M (row + r) (posB s c))) m ≤ 164
  omega
theorem pow164 {n : Nat} (h : n ≤ 4) : (164 : Int) ^ n ≤ 723394816 := by
  match n, h with
  | 0, _ => decide
  | 1, _ => decide
  | 2, _ => decide
  | 3, _ => decide
  | 4, _ => decide
theorem detF_bound {M : Mat} (hM : ∀ r c, absI (M r c) ≤ 41) (row : Nat) {s : List Bool} (hs : cardB s ≤ 4) : absI (detF M row s) ≤ 723394816 :=
  Int.le_trans (det_bound (B := 164) (by decide) _ fun r hr => rowF_sum hM hs row s r) (pow164 hs)
theorem prtF_bound {M : Mat} (hM : ∀ r c, absI (M r c) ≤ 41) (row : Nat) {s : List Bool} (hs : cardB s ≤ 4) {c : Nat} : absI (prtF M row s c) ≤ 723394816 := by
  unfold prtF
  have hle : cardB (s.take c) ≤ cardB s := List.Sublist.count_le _ (List.take_sublist c s)
  cases hm : cardB s with
  | zero => rw [hm] at hle; rw [show cardB (s.take c) = 0 by omega]; simp [sumN, absI]
  | succ m =>
    obtain ⟨A, hA⟩ : ∃ A : Mat, A = fun r c => M (row + r) (posB s c) := ⟨_, rfl⟩
    have hrow : ∀ r, sumN (fun c => absI (A r c)) (m + 1) ≤ 164 := fun r => by rw [hA]; exact rowF_sum hM (by omega) row s r
    have e : sumN (termF M row s) (cardB (s.take c)) = sumN (fun j => sg j * A 0 j * det m (minorM A j)) (cardB (s.take c)) := sumN_congr fun j hj => by
      rw [termF, minor_F hm (by omega), hA]; rfl
    rw [e]
    have hmin : ∀ j, j < m + 1 → absI (det m (minorM A j)) ≤ 164 ^ m := fun j hj => det_bound (by decide) _ fun r hr => by
      have h1 := hrow (r + 1)
      have h2 := sumN_skp (fun c => absI (A (r + 1) c)) (j := j) (n := m) (by omega)
      have h3 := absI_nonneg (A (r + 1) j)
      show sumN (fun c => absI (A (r + 1) (skp j c))) m ≤ 164
      omega
    exact Int.le_trans (det_part (n := m) (B := 164) (by decide) A (hrow 0) hmin (cardB (s.take c)) (by omega)) (pow164 (by omega))
theorem detF_full (M : Mat) (n : Nat) : detF M 0 (List.replicate n true) = det n M := by
  unfold detF
  have hc : cardB (List.replicate n true) = n := by simp [cardB]
  rw [hc]
  have hp : ∀ n c, c < n → posB (List.replicate n true) c = c := by
    intro n
    induction n with
    | zero => intro c h; omega
    | succ n ih =>
      intro c h
      cases c with
      | zero => rfl
      | succ c => show posB (List.replicate n true) c + 1 = c + 1; rw [ih c (by omega)]
  refine det_congr fun r c hr hc => ?_
  rw [Nat.zero_add, hp n c hc]
theorem absI_le {x : Int} {b : Int} : absI x ≤ b ↔ -b ≤ x ∧ x ≤ b := by unfold absI; omega
end Go.Proofs.Ytcdpkgmkckfonaa

set_option linter.unusedVariables false
set_option linter.unusedSimpArgs false
set_option maxRecDepth 10000
namespace Go.Proofs.Ytcdpkgmkckfonaa
open Go Go.Am

variable {h h' : Hp} {K : AV → Hp → Prop}

@[go_sem] theorem keepW_rf (l : Nat → Bool) (h : Hp) (A : Prop) : keepW true l h h A = A := keepW_t (fun _ _ => rfl) A

/-- Four rows of five numbers. -/
def matA (X : Mat) : List AV := (List.range 20).map fun k => I (X (k / 5) (k % 5))
def setM (X : Mat) (i j : Nat) (v : Int) : Mat := fun r c => if r = i ∧ c = j then v else X r c
theorem matA_len (X : Mat) : (matA X).length = 20 := by simp [matA]
@[go_sem] theorem matA_get (X : Mat) (i j : Nat) (hi : i < 4) (hj : j < 5) : (matA X)[i * 5 + j]? = some (I (X i j)) := by
  have h1 : (i * 5 + j) / 5 = i := by omega
  have h2 : (i * 5 + j) % 5 = j := by omega
  rw [matA, List.getElem?_map, List.getElem?_range (by omega)]
  simp [h1, h2]
theorem matA_set (X : Mat) (i j : Nat) (v : Int) (hi : i < 4) (hj : j < 5) : (matA X).set (i * 5 + j) (I v) = matA (setM X i j v) := by
  refine List.ext_getElem? fun k => ?_
  rw [List.getElem?_set]
  by_cases hk : k < 20
  · by_cases e : i * 5 + j = k
    · subst e
      rw [if_pos rfl, if_pos (by rw [matA_len]; omega), matA_get _ _ _ hi hj]
      simp [setM]
    · rw [if_neg e]
      have h1 : k = k / 5 * 5 + k % 5 := by omega
      have h2 : ¬ (k / 5 = i ∧ k % 5 = j) := by omega
      rw [h1, matA_get _ _ _ (by omega) (by omega), matA_get _ _ _ (by omega) (by omega)]
      simp [setM, h2]
  · by_cases e : i * 5 + j = k
    · omega
    · rw [if_neg e, List.getElem?_eq_none (by rw [matA_len]; omega), List.getElem?_eq_none (by rw [matA_len]; omega)]
@[go_sem] theorem matA_store (X : Mat) (id i j : Nat) (v : Int) (hi : i < 4) (hj : j < 5) : storeC h id (i * 5 + j) 1 (some (.cells false false (matA X))) [.int .i64 v] = some (.skp, h.put id (some (.cells false false (matA (setM X i j v))))) := by
  rw [storeC_one id _ false _ (I v) rfl (by rw [matA_len]; omega), matA_set _ _ _ _ hi hj]
theorem matA_congr {X Y : Mat} (h : ∀ r c, r < 4 → c < 5 → X r c = Y r c) : matA X = matA Y := by
  refine List.map_congr_left fun k hk => ?_
  have hk := List.mem_range.1 hk
  rw [h _ _ (by omega) (by omega)]
theorem matA_cell (X : Mat) : (matA X).all AV.isCell = true := List.all_eq_true.2 fun x hx => by
  obtain ⟨k, _, rfl⟩ := List.mem_map.1 hx; rfl
theorem matA_pure (X : Mat) : AV.pureL (matA X) = true := pureL_all fun x hx => by
  obtain ⟨k, _, rfl⟩ := List.mem_map.1 hx; rfl
theorem put_same {id : Nat} {b : Option Blk} (hb : h.bl id = b) : h.put id b = h := by
  cases h
  simp only [Hp.put, Hp.mk.injEq, true_and]
  funext k
  split
  · rename_i e; rw [e]; exact hb.symm
  · rfl
theorem list_ext_on' {s t : List Bool} (hl : s.length = t.length) (h : ∀ l, l < s.length → onB s l = onB t l) : s = t := by
  refine List.ext_getElem hl fun i h1 h2 => ?_
  have := h i h1
  simpa [onB, List.getElem?_eq_getElem h1, List.getElem?_eq_getElem h2] using this
theorem put_put (id : Nat) (b c : Option Blk) : (h.put id b).put id c = h.put id c := by
  simp only [Hp.put, Hp.mk.injEq, true_and]
  funext k
  split <;> rfl
/-- What is in use: all but the free columns. -/
def useL (s : List Bool) : List Bool := s.map not ++ List.replicate (4 - s.length) false
theorem useL_len {s : List Bool} (h : s.length ≤ 4) : (useL s).length = 4 := by simp [useL]; omega
theorem useL_nth {s : List Bool} {c : Nat} (hc : c < s.length) : nth (useL s) c = !onB s c := by
  rw [useL, nth, List.getElem?_append_left (by simpa using hc), List.getElem?_map, onB, List.getElem?_eq_getElem hc]; rfl
theorem useL_set {s : List Bool} {c : Nat} (hc : c < s.length) (b : Bool) : (useL s).set c (!b) = useL (s.set c b) := by
  rw [useL, useL, List.set_append_left _ _ (by simpa using hc), List.length_set, List.map_set]
/-- The matrix with the right side in one column. -/
def repM (X : Mat) (rep : Int) : Mat := fun r c => X r (if (c : Int) = rep then 4 else c)

set_option maxHeartbeats 4000000 in
theorem f85_shr {n N U R M S : Nat} {X : Mat} {rep : Int} (hn : n ≤ 4) (hX : ∀ r c, absI (X r c) ≤ 41) (d1 : N ≠ U) (d2 : R ≠ U) (d3 : M ≠ U) (d4 : S ≠ U) :
    ∀ (m row : Nat) (s : List Bool) (h : Hp), s.length = n → cardB s = m → row + m = n → N < h.nx → R < h.nx → M < h.nx → S < h.nx →
      h.bl N = some (.cells false false [I n]) → h.bl U = some (.cells false false ((useL s).flatMap (e1 AV.bool))) → h.bl R = some (.cells false false [I rep]) → h.bl M = some (.cells false false (matA X)) →
      h.bl S = some (.cells false false [.fn 85 [.ptr N 0, .ptr U 0, .ptr R 0, .ptr M 0, .ptr S 0]]) →
      Shr Try.prog cfg 85 [I row, .ptr N 0, .ptr U 0, .ptr R 0, .ptr M 0, .ptr S 0] h (I (detF (repM X rep) row s)) h := by
  intro m
  induction m with
  | zero =>
    intro row s h hl hc hrow lN lR lM lS bN bU bR bM bS
    have hr : row = n := by omega
    have hd : detF (repM X rep) row s = 1 := by unfold detF; rw [hc]; rfl
    rw [hd]
    suffices hh : ∃ v h', Shr Try.prog cfg 85 [I row, .ptr N 0, .ptr U 0, .ptr R 0, .ptr M 0, .ptr S 0] h v h' ∧ (v = I 1 ∧ h' = h) by
      obtain ⟨v, h', hs, rfl, rfl⟩ := hh
      exact hs
    refine Shr_intro Try.func85 rfl ok85 (Nat.le_of_ble_eq_true rfl) ?_
    simp only [Try.f85, Option.getD_some, initSt6]
    simp (disch := first | (simp only [go_sem, gb0, eq_self]; done) | omega | (simp only [gl1, gl2]; omega)) only [go_sem, ↓reduceIte, Nat.reduceEqDiff, Nat.reduceAdd, Nat.reduceMul, Nat.reduceSub, Int.reduceToNat, Nat.reduceBEq, bN, hr]
  | succ m ih =>
    intro row s h hl hc hrow lN lR lM lS bN bU bR bM bS
    suffices hh : ∃ v h', Shr Try.prog cfg 85 [I row, .ptr N 0, .ptr U 0, .ptr R 0, .ptr M 0, .ptr S 0] h v h' ∧ (v = I (detF (repM X rep) row s) ∧ h' = h) by
      obtain ⟨v, h', hs, rfl, rfl⟩ := hh
      exact hs
    have hne : ¬ (row : Int) = n := by omega
    have hR : ∀ r c, absI (repM X rep r c) ≤ 41 := fun r c => hX _ _
    have hrow4 : row < 4 := by omega
    have hrow4' : (row : Int) < 4 := by omega
    refine Shr_intro Try.func85 rfl ok85 (Nat.le_of_ble_eq_true rfl) ?_
    simp only [Try.f85, Option.getD_some, initSt6]
    simp (disch := first | (simp only [go_sem, gb0, eq_self]; done) | omega | (simp only [gl1, gl2]; omega)) only [go_sem, ↓reduceIte, Nat.reduceEqDiff, Nat.reduceAdd, Nat.reduceMul, Nat.reduceSub, Int.reduceToNat, Nat.reduceBEq, bN, hne]
    refine WP_for 16 n (fun c st h' => st 0 = I row ∧ st 1 = .ptr N 0 ∧ st 2 = .ptr U 0 ∧ st 3 = .ptr R 0 ∧ st 4 = .ptr M 0 ∧ st 5 = .ptr S 0 ∧ st 15 = I n ∧ st 8 = I (prtF (repM X rep) row s c) ∧ st 9 = I (sg (cardB (s.take c))) ∧ h' = h) (by simp (disch := first | (simp only [go_sem, gb0, eq_self]; done) | omega | (simp only [gl1, gl2]; omega)) only [go_sem, ↓reduceIte, Nat.reduceEqDiff, Nat.reduceAdd, Nat.reduceMul, Nat.reduceSub, Int.reduceToNat, Nat.reduceBEq]) ⟨by simp (disch := first | (simp only [go_sem, gb0, eq_self]; done) | omega | (simp only [gl1, gl2]; omega)) only [go_sem, ↓reduceIte, Nat.reduceEqDiff, Nat.reduceAdd, Nat.reduceMul, Nat.reduceSub, Int.reduceToNat, Nat.reduceBEq], by simp (disch := first | (simp only [go_sem, gb0, eq_self]; done) | omega | (simp only [gl1, gl2]; omega)) only [go_sem, ↓reduceIte, Nat.reduceEqDiff, Nat.reduceAdd, Nat.reduceMul, Nat.reduceSub, Int.reduceToNat, Nat.reduceBEq], by simp (disch := first | (simp only [go_sem, gb0, eq_self]; done) | omega | (simp only [gl1, gl2]; omega)) only [go_sem, ↓reduceIte, Nat.reduceEqDiff, Nat.reduceAdd, Nat.reduceMul, Nat.reduceSub, Int.reduceToNat, Nat.reduceBEq], by simp (disch := first | (simp only [go_sem, gb0, eq_self]; done) | omega | (simp only [gl1, gl2]; omega)) only [go_sem, ↓reduceIte, Nat.reduceEqDiff, Nat.reduceAdd, Nat.reduceMul, Nat.reduceSub, Int.reduceToNat, Nat.reduceBEq], by simp (disch := first | (simp only [go_sem, gb0, eq_self]; done) | omega | (simp only [gl1, gl2]; omega)) only [go_sem, ↓reduceIte, Nat.reduceEqDiff, Nat.reduceAdd, Nat.reduceMul, Nat.reduceSub, Int.reduceToNat, Nat.reduceBEq], by simp (disch := first | (simp only [go_sem, gb0, eq_self]; done) | omega | (simp only [gl1, gl2]; omega)) only [go_sem, ↓reduceIte, Nat.reduceEqDiff, Nat.reduceAdd, Nat.reduceMul, Nat.reduceSub, Int.reduceToNat, Nat.reduceBEq], by simp (disch := first | (simp only [go_sem, gb0, eq_self]; done) | omega | (simp only [gl1, gl2]; omega)) only [go_sem, ↓reduceIte, Nat.reduceEqDiff, Nat.reduceAdd, Nat.reduceMul, Nat.reduceSub, Int.reduceToNat, Nat.reduceBEq], by simp (disch := first | (simp only [go_sem, gb0, eq_self]; done) | omega | (simp only [gl1, gl2]; omega)) only [go_sem, ↓reduceIte, Nat.reduceEqDiff, Nat.reduceAdd, Nat.reduceMul, Nat.reduceSub, Int.reduceToNat, Nat.reduceBEq]; rfl, by simp (disch := first | (simp only [go_sem, gb0, eq_self]; done) | omega | (simp only [gl1, gl2]; omega)) only [go_sem, ↓reduceIte, Nat.reduceEqDiff, Nat.reduceAdd, Nat.reduceMul, Nat.reduceSub, Int.reduceToNat, Nat.reduceBEq]; rfl, rfl⟩ ?_
    rintro c st h' hcn s16 ⟨s0, s1, s2, s3, s4, s5, s15, s8, s9, rfl⟩
    by_cases hlt : c < n
    case neg =>
      have hce : c = n := by omega
      subst hce
      have := prtF_full (M := repM X rep) (row := row) (s := s) hc
      rw [hl] at this
      simp (disch := first | (simp only [go_sem, gb0, eq_self]; done) | omega | (simp only [gl1, gl2]; omega)) only [go_sem, ↓reduceIte, Nat.reduceEqDiff, Nat.reduceAdd, Nat.reduceMul, Nat.reduceSub, Int.reduceToNat, Nat.reduceBEq, s0, s1, s2, s3, s4, s5, s15, s8, s9, s16, hlt, this]
    have hlt' : (c : Int) < n := by omega
    have hc4 : c < 4 := by omega
    have hc4' : (c : Int) < 4 := by omega
    have uU := useL_nth (s := s) (c := c) (by omega)
    have lU := useL_len (s := s) (by omega)
    have eU : ((useL s).flatMap (e1 AV.bool))[c]? = some (.bool (!onB s c)) := by rw [flat_get _ _ _ (by omega), uU]
    cases ho : onB s c with
    | false =>
      rw [ho] at eU
      have q1 : cardB (s.take (c + 1)) = cardB (s.take c) := by rw [take_on (by omega), ho]; rfl
      have q2 := prtF_off (M := repM X rep) (row := row) (s := s) (c := c) (by omega) ho
      simp (disch := first | (simp only [go_sem, gb0, eq_self]; done) | omega | (simp only [gl1, gl2]; omega)) only [go_sem, ↓reduceIte, Nat.reduceEqDiff, Nat.reduceAdd, Nat.reduceMul, Nat.reduceSub, Int.reduceToNat, Nat.reduceBEq, s0, s1, s2, s3, s4, s5, s15, s8, s9, s16, hlt, hlt', hc4, hc4', bU, eU]
      rw [ForK_normal]
      exact ⟨hlt, by simp (disch := first | (simp only [go_sem, gb0, eq_self]; done) | omega | (simp only [gl1, gl2]; omega)) only [go_sem, ↓reduceIte, Nat.reduceEqDiff, Nat.reduceAdd, Nat.reduceMul, Nat.reduceSub, Int.reduceToNat, Nat.reduceBEq, s16], by simp (disch := first | (simp only [go_sem, gb0, eq_self]; done) | omega | (simp only [gl1, gl2]; omega)) only [go_sem, ↓reduceIte, Nat.reduceEqDiff, Nat.reduceAdd, Nat.reduceMul, Nat.reduceSub, Int.reduceToNat, Nat.reduceBEq, s0], by simp (disch := first | (simp only [go_sem, gb0, eq_self]; done) | omega | (simp only [gl1, gl2]; omega)) only [go_sem, ↓reduceIte, Nat.reduceEqDiff, Nat.reduceAdd, Nat.reduceMul, Nat.reduceSub, Int.reduceToNat, Nat.reduceBEq, s1], by simp (disch := first | (simp only [go_sem, gb0, eq_self]; done) | omega | (simp only [gl1, gl2]; omega)) only [go_sem, ↓reduceIte, Nat.reduceEqDiff, Nat.reduceAdd, Nat.reduceMul, Nat.reduceSub, Int.reduceToNat, Nat.reduceBEq, s2], by simp (disch := first | (simp only [go_sem, gb0, eq_self]; done) | omega | (simp only [gl1, gl2]; omega)) only [go_sem, ↓reduceIte, Nat.reduceEqDiff, Nat.reduceAdd, Nat.reduceMul, Nat.reduceSub, Int.reduceToNat, Nat.reduceBEq, s3], by simp (disch := first | (simp only [go_sem, gb0, eq_self]; done) | omega | (simp only [gl1, gl2]; omega)) only [go_sem, ↓reduceIte, Nat.reduceEqDiff, Nat.reduceAdd, Nat.reduceMul, Nat.reduceSub, Int.reduceToNat, Nat.reduceBEq, s4], by simp (disch := first | (simp only [go_sem, gb0, eq_self]; done) | omega | (simp only [gl1, gl2]; omega)) only [go_sem, ↓reduceIte, Nat.reduceEqDiff, Nat.reduceAdd, Nat.reduceMul, Nat.reduceSub, Int.reduceToNat, Nat.reduceBEq, s5], by simp (disch := first | (simp only [go_sem, gb0, eq_self]; done) | omega | (simp only [gl1, gl2]; omega)) only [go_sem, ↓reduceIte, Nat.reduceEqDiff, Nat.reduceAdd, Nat.reduceMul, Nat.reduceSub, Int.reduceToNat, Nat.reduceBEq, s15], by simp (disch := first | (simp only [go_sem, gb0, eq_self]; done) | omega | (simp only [gl1, gl2]; omega)) only [go_sem, ↓reduceIte, Nat.reduceEqDiff, Nat.reduceAdd, Nat.reduceMul, Nat.reduceSub, Int.reduceToNat, Nat.reduceBEq, s8, q2], by simp (disch := first | (simp only [go_sem, gb0, eq_self]; done) | omega | (simp only [gl1, gl2]; omega)) only [go_sem, ↓reduceIte, Nat.reduceEqDiff, Nat.reduceAdd, Nat.reduceMul, Nat.reduceSub, Int.reduceToNat, Nat.reduceBEq, s9, q1], rfl⟩
    | true =>
      rw [ho] at eU
      have q1 : cardB (s.take (c + 1)) = cardB (s.take c) + 1 := by rw [take_on (by omega), ho]; rfl
      have q2 := prtF_on (M := repM X rep) (row := row) (s := s) (c := c) (by omega) ho
      have q3 : sg (cardB (s.take c) + 1) = 0 - sg (cardB (s.take c)) := by rw [sg_succ]; omega
      have hsg : sg (cardB (s.take c)) = 1 ∨ sg (cardB (s.take c)) = -1 := by unfold sg; split <;> simp
      have hun := cardB_unset ho
      have b1 := absI_le.1 (prtF_bound hR row (s := s) (by omega) (c := c))
      have b2 := absI_le.1 (prtF_bound hR row (s := s) (by omega) (c := c + 1))
      have b3 := absI_le.1 (detF_bound hR (row + 1) (s := s.set c false) (by omega))
      have b4 := absI_le.1 (hR row c)
      obtain ⟨a, ha⟩ : ∃ a : Nat, a = if (c : Int) = rep then 4 else c := ⟨_, rfl⟩
      have ha5 : a < 5 := by rw [ha]; split <;> omega
      have ha5' : (a : Int) < 5 := by omega
      have hxa : repM X rep row c = X row a := by unfold repM; rw [ha]
      have hset := useL_set (s := s) (c := c) (by omega) false
      have hset' : (useL s).set c true = useL (s.set c false) := hset
      have hset2 := useL_set (s := s.set c false) (c := c) (by rw [List.length_set]; omega) true
      have hss : (s.set c false).set c true = s := by
        rw [List.set_set]
        refine list_ext_on' (by simp) fun l hl' => ?_
        rw [onB_set s c l (by omega)]
        by_cases e : l = c
        · subst e; rw [ho]; simp
        · simp [e]
      rw [hss] at hset2
      have hset2' : (useL (s.set c false)).set c false = useL s := hset2
      have hs := ih (row + 1) (s.set c false) (h'.put U (some (.cells false false ((useL (s.set c false)).flatMap (e1 AV.bool))))) (by rw [List.length_set]; exact hl) (by omega) (by omega) lN lR lM lS
        (by rw [put_bl, if_neg d1]; exact bN) (by rw [put_bl, if_pos rfl]) (by rw [put_bl, if_neg d2]; exact bR) (by rw [put_bl, if_neg d3]; exact bM) (by rw [put_bl, if_neg d4]; exact bS)
      have hcast : ((row + 1 : Nat) : Int) = (row : Int) + 1 := by omega
      rw [hcast] at hs
      have hcl := fun K => CallW_shr (K := K) 85 _ shr85 hs
      have hps : (h'.put U (some (.cells false false ((useL (s.set c false)).flatMap (e1 AV.bool))))).put U (some (.cells false false ((useL s).flatMap (e1 AV.bool)))) = h' := by rw [put_put, put_same bU]
      have hsx : -41 ≤ sg (cardB (s.take c)) * X row a ∧ sg (cardB (s.take c)) * X row a ≤ 41 := by
        rw [hxa] at b4
        rcases hsg with e | e <;> rw [e] <;> omega
      have hpd : sg (cardB (s.take c)) * X row a * detF (repM X rep) (row + 1) (s.set c false) = prtF (repM X rep) row s (c + 1) - prtF (repM X rep) row s c := by rw [q2, hxa]; omega
      have lU1 : c < (useL s).length := by omega
      have lU2 : c < (useL (s.set c false)).length := by rw [useL_len (by rw [List.length_set]; omega)]; omega
      by_cases hx0 : X row a = 0
      · have q4 : prtF (repM X rep) row s (c + 1) = prtF (repM X rep) row s c := by rw [q2, hxa, hx0]; simp
        by_cases hcr : (c : Int) = rep
        · have ha4 : a = 4 := by rw [ha, if_pos hcr]
          subst ha4
          have hd : decide ((c : Int) = rep) = true := decide_eq_true hcr
          simp (disch := first | (simp only [go_sem, gb0, eq_self]; done) | omega | (simp only [gl1, gl2]; omega)) only [go_sem, ↓reduceIte, Nat.reduceEqDiff, Nat.reduceAdd, Nat.reduceMul, Nat.reduceSub, Int.reduceToNat, Nat.reduceBEq, s0, s1, s2, s3, s4, s5, s15, s8, s9, s16, hlt, hlt', hc4, hc4', bU, bR, bM, eU, hd, hx0, hrow4, hrow4', matA_get, q3]
          rw [ForK_normal]
          exact ⟨hlt, by simp (disch := first | (simp only [go_sem, gb0, eq_self]; done) | omega | (simp only [gl1, gl2]; omega)) only [go_sem, ↓reduceIte, Nat.reduceEqDiff, Nat.reduceAdd, Nat.reduceMul, Nat.reduceSub, Int.reduceToNat, Nat.reduceBEq, s16], by simp (disch := first | (simp only [go_sem, gb0, eq_self]; done) | omega | (simp only [gl1, gl2]; omega)) only [go_sem, ↓reduceIte, Nat.reduceEqDiff, Nat.reduceAdd, Nat.reduceMul, Nat.reduceSub, Int.reduceToNat, Nat.reduceBEq, s0], by simp (disch := first | (simp only [go_sem, gb0, eq_self]; done) | omega | (simp only [gl1, gl2]; omega)) only [go_sem, ↓reduceIte, Nat.reduceEqDiff, Nat.reduceAdd, Nat.reduceMul, Nat.reduceSub, Int.reduceToNat, Nat.reduceBEq, s1], by simp (disch := first | (simp only [go_sem, gb0, eq_self]; done) | omega | (simp only [gl1, gl2]; omega)) only [go_sem, ↓reduceIte, Nat.reduceEqDiff, Nat.reduceAdd, Nat.reduceMul, Nat.reduceSub, Int.reduceToNat, Nat.reduceBEq, s2], by simp (disch := first | (simp only [go_sem, gb0, eq_self]; done) | omega | (simp only [gl1, gl2]; omega)) only [go_sem, ↓reduceIte, Nat.reduceEqDiff, Nat.reduceAdd, Nat.reduceMul, Nat.reduceSub, Int.reduceToNat, Nat.reduceBEq, s3], by simp (disch := first | (simp only [go_sem, gb0, eq_self]; done) | omega | (simp only [gl1, gl2]; omega)) only [go_sem, ↓reduceIte, Nat.reduceEqDiff, Nat.reduceAdd, Nat.reduceMul, Nat.reduceSub, Int.reduceToNat, Nat.reduceBEq, s4], by simp (disch := first | (simp only [go_sem, gb0, eq_self]; done) | omega | (simp only [gl1, gl2]; omega)) only [go_sem, ↓reduceIte, Nat.reduceEqDiff, Nat.reduceAdd, Nat.reduceMul, Nat.reduceSub, Int.reduceToNat, Nat.reduceBEq, s5], by simp (disch := first | (simp only [go_sem, gb0, eq_self]; done) | omega | (simp only [gl1, gl2]; omega)) only [go_sem, ↓reduceIte, Nat.reduceEqDiff, Nat.reduceAdd, Nat.reduceMul, Nat.reduceSub, Int.reduceToNat, Nat.reduceBEq, s15], by simp (disch := first | (simp only [go_sem, gb0, eq_self]; done) | omega | (simp only [gl1, gl2]; omega)) only [go_sem, ↓reduceIte, Nat.reduceEqDiff, Nat.reduceAdd, Nat.reduceMul, Nat.reduceSub, Int.reduceToNat, Nat.reduceBEq, s8, q4], by simp (disch := first | (simp only [go_sem, gb0, eq_self]; done) | omega | (simp only [gl1, gl2]; omega)) only [go_sem, ↓reduceIte, Nat.reduceEqDiff, Nat.reduceAdd, Nat.reduceMul, Nat.reduceSub, Int.reduceToNat, Nat.reduceBEq, s9, q1, q3], rfl⟩
        · have ha4 : a = c := by rw [ha, if_neg hcr]
          subst ha4
          simp (disch := first | (simp only [go_sem, gb0, eq_self]; done) | omega | (simp only [gl1, gl2]; omega)) only [go_sem, ↓reduceIte, Nat.reduceEqDiff, Nat.reduceAdd, Nat.reduceMul, Nat.reduceSub, Int.reduceToNat, Nat.reduceBEq, s0, s1, s2, s3, s4, s5, s15, s8, s9, s16, hlt, hlt', hc4, hc4', bU, bR, bM, eU, hcr, hx0, hrow4, hrow4', matA_get, q3]
          rw [ForK_normal]
          exact ⟨hlt, by simp (disch := first | (simp only [go_sem, gb0, eq_self]; done) | omega | (simp only [gl1, gl2]; omega)) only [go_sem, ↓reduceIte, Nat.reduceEqDiff, Nat.reduceAdd, Nat.reduceMul, Nat.reduceSub, Int.reduceToNat, Nat.reduceBEq, s16], by simp (disch := first | (simp only [go_sem, gb0, eq_self]; done) | omega | (simp only [gl1, gl2]; omega)) only [go_sem, ↓reduceIte, Nat.reduceEqDiff, Nat.reduceAdd, Nat.reduceMul, Nat.reduceSub, Int.reduceToNat, Nat.reduceBEq, s0], by simp (disch := first | (simp only [go_sem, gb0, eq_self]; done) | omega | (simp only [gl1, gl2]; omega)) only [go_sem, ↓reduceIte, Nat.reduceEqDiff, Nat.reduceAdd, Nat.reduceMul, Nat.reduceSub, Int.reduceToNat, Nat.reduceBEq, s1], by simp (disch := first | (simp only [go_sem, gb0, eq_self]; done) | omega | (simp only [gl1, gl2]; omega)) only [go_sem, ↓reduceIte, Nat.reduceEqDiff, Nat.reduceAdd, Nat.reduceMul, Nat.reduceSub, Int.reduceToNat, Nat.reduceBEq, s2], by simp (disch := first | (simp only [go_sem, gb0, eq_self]; done) | omega | (simp only [gl1, gl2]; omega)) only [go_sem, ↓reduceIte, Nat.reduceEqDiff, Nat.reduceAdd, Nat.reduceMul, Nat.reduceSub, Int.reduceToNat, Nat.reduceBEq, s3], by simp (disch := first | (simp only [go_sem, gb0, eq_self]; done) | omega | (simp only [gl1, gl2]; omega)) only [go_sem, ↓reduceIte, Nat.reduceEqDiff, Nat.reduceAdd, Nat.reduceMul, Nat.reduceSub, Int.reduceToNat, Nat.reduceBEq, s4], by simp (disch := first | (simp only [go_sem, gb0, eq_self]; done) | omega | (simp only [gl1, gl2]; omega)) only [go_sem, ↓reduceIte, Nat.reduceEqDiff, Nat.reduceAdd, Nat.reduceMul, Nat.reduceSub, Int.reduceToNat, Nat.reduceBEq, s5], by simp (disch := first | (simp only [go_sem, gb0, eq_self]; done) | omega | (simp only [gl1, gl2]; omega)) only [go_sem, ↓reduceIte, Nat.reduceEqDiff, Nat.reduceAdd, Nat.reduceMul, Nat.reduceSub, Int.reduceToNat, Nat.reduceBEq, s15], by simp (disch := first | (simp only [go_sem, gb0, eq_self]; done) | omega | (simp only [gl1, gl2]; omega)) only [go_sem, ↓reduceIte, Nat.reduceEqDiff, Nat.reduceAdd, Nat.reduceMul, Nat.reduceSub, Int.reduceToNat, Nat.reduceBEq, s8, q4], by simp (disch := first | (simp only [go_sem, gb0, eq_self]; done) | omega | (simp only [gl1, gl2]; omega)) only [go_sem, ↓reduceIte, Nat.reduceEqDiff, Nat.reduceAdd, Nat.reduceMul, Nat.reduceSub, Int.reduceToNat, Nat.reduceBEq, s9, q1, q3], rfl⟩
      · have eMU : (M == U) = false := by simp [d3]
        have eSU : (S == U) = false := by simp [d4]
        by_cases hcr : (c : Int) = rep
        · have ha4 : a = 4 := by rw [ha, if_pos hcr]
          subst ha4
          have hd : decide ((c : Int) = rep) = true := decide_eq_true hcr
          simp (disch := first | (simp only [go_sem, gb0, eq_self]; done) | omega | (simp only [gl1, gl2]; omega)) only [go_sem, ↓reduceIte, Nat.reduceEqDiff, Nat.reduceAdd, Nat.reduceMul, Nat.reduceSub, Int.reduceToNat, Nat.reduceBEq, s0, s1, s2, s3, s4, s5, s15, s8, s9, s16, hlt, hlt', hc4, hc4', bU, bR, bM, eU, hd, hx0, hrow4, hrow4', matA_get, lU1, hset', ↓stopY 13 true]
          refine WPy_go (fun st h2 => st 0 = I row ∧ st 1 = .ptr N 0 ∧ st 2 = .ptr U 0 ∧ st 3 = .ptr R 0 ∧ st 4 = .ptr M 0 ∧ st 5 = .ptr S 0 ∧ st 15 = I n ∧ st 8 = I (prtF (repM X rep) row s c) ∧ st 9 = I (sg (cardB (s.take c))) ∧ st 10 = I c ∧ st 16 = I c ∧ st 11 = I 4 ∧ h2 = h'.put U (some (.cells false false ((useL (s.set c false)).flatMap (e1 AV.bool))))) ⟨by simp (disch := first | (simp only [go_sem, gb0, eq_self]; done) | omega | (simp only [gl1, gl2]; omega)) only [go_sem, ↓reduceIte, Nat.reduceEqDiff, Nat.reduceAdd, Nat.reduceMul, Nat.reduceSub, Int.reduceToNat, Nat.reduceBEq, s0, s1, s2, s3, s4, s5, s15, s8, s9, s16], by simp (disch := first | (simp only [go_sem, gb0, eq_self]; done) | omega | (simp only [gl1, gl2]; omega)) only [go_sem, ↓reduceIte, Nat.reduceEqDiff, Nat.reduceAdd, Nat.reduceMul, Nat.reduceSub, Int.reduceToNat, Nat.reduceBEq, s0, s1, s2, s3, s4, s5, s15, s8, s9, s16], by simp (disch := first | (simp only [go_sem, gb0, eq_self]; done) | omega | (simp only [gl1, gl2]; omega)) only [go_sem, ↓reduceIte, Nat.reduceEqDiff, Nat.reduceAdd, Nat.reduceMul, Nat.reduceSub, Int.reduceToNat, Nat.reduceBEq, s0, s1, s2, s3, s4, s5, s15, s8, s9, s16], by simp (disch := first | (simp only [go_sem, gb0, eq_self]; done) | omega | (simp only [gl1, gl2]; omega)) only [go_sem, ↓reduceIte, Nat.reduceEqDiff, Nat.reduceAdd, Nat.reduceMul, Nat.reduceSub, Int.reduceToNat, Nat.reduceBEq, s0, s1, s2, s3, s4, s5, s15, s8, s9, s16], by simp (disch := first | (simp only [go_sem, gb0, eq_self]; done) | omega | (simp only [gl1, gl2]; omega)) only [go_sem, ↓reduceIte, Nat.reduceEqDiff, Nat.reduceAdd, Nat.reduceMul, Nat.reduceSub, Int.reduceToNat, Nat.reduceBEq, s0, s1, s2, s3, s4, s5, s15, s8, s9, s16], by simp (disch := first | (simp only [go_sem, gb0, eq_self]; done) | omega | (simp only [gl1, gl2]; omega)) only [go_sem, ↓reduceIte, Nat.reduceEqDiff, Nat.reduceAdd, Nat.reduceMul, Nat.reduceSub, Int.reduceToNat, Nat.reduceBEq, s0, s1, s2, s3, s4, s5, s15, s8, s9, s16], by simp (disch := first | (simp only [go_sem, gb0, eq_self]; done) | omega | (simp only [gl1, gl2]; omega)) only [go_sem, ↓reduceIte, Nat.reduceEqDiff, Nat.reduceAdd, Nat.reduceMul, Nat.reduceSub, Int.reduceToNat, Nat.reduceBEq, s0, s1, s2, s3, s4, s5, s15, s8, s9, s16], by simp (disch := first | (simp only [go_sem, gb0, eq_self]; done) | omega | (simp only [gl1, gl2]; omega)) only [go_sem, ↓reduceIte, Nat.reduceEqDiff, Nat.reduceAdd, Nat.reduceMul, Nat.reduceSub, Int.reduceToNat, Nat.reduceBEq, s0, s1, s2, s3, s4, s5, s15, s8, s9, s16], by simp (disch := first | (simp only [go_sem, gb0, eq_self]; done) | omega | (simp only [gl1, gl2]; omega)) only [go_sem, ↓reduceIte, Nat.reduceEqDiff, Nat.reduceAdd, Nat.reduceMul, Nat.reduceSub, Int.reduceToNat, Nat.reduceBEq, s0, s1, s2, s3, s4, s5, s15, s8, s9, s16], by simp (disch := first | (simp only [go_sem, gb0, eq_self]; done) | omega | (simp only [gl1, gl2]; omega)) only [go_sem, ↓reduceIte, Nat.reduceEqDiff, Nat.reduceAdd, Nat.reduceMul, Nat.reduceSub, Int.reduceToNat, Nat.reduceBEq, s0, s1, s2, s3, s4, s5, s15, s8, s9, s16], by simp (disch := first | (simp only [go_sem, gb0, eq_self]; done) | omega | (simp only [gl1, gl2]; omega)) only [go_sem, ↓reduceIte, Nat.reduceEqDiff, Nat.reduceAdd, Nat.reduceMul, Nat.reduceSub, Int.reduceToNat, Nat.reduceBEq, s0, s1, s2, s3, s4, s5, s15, s8, s9, s16], by simp (disch := first | (simp only [go_sem, gb0, eq_self]; done) | omega | (simp only [gl1, gl2]; omega)) only [go_sem, ↓reduceIte, Nat.reduceEqDiff, Nat.reduceAdd, Nat.reduceMul, Nat.reduceSub, Int.reduceToNat, Nat.reduceBEq], rfl⟩ ?_
          clear s0 s1 s2 s3 s4 s5 s15 s8 s9 s16
          rintro st h2 ⟨s0, s1, s2, s3, s4, s5, s15, s8, s9, s10, s16, s11, rfl⟩
          simp (maxSteps := 3000000) (disch := first | (simp only [go_sem, gb0, eq_self]; done) | omega | (simp only [gl1, gl2]; omega)) only [go_sem, ↓reduceIte, Nat.reduceEqDiff, Nat.reduceAdd, Nat.reduceMul, Nat.reduceSub, Int.reduceToNat, Nat.reduceBEq, s0, s1, s2, s3, s4, s5, s15, s8, s9, s10, s16, s11, hc4, hc4', bM, bS, hrow4, hrow4', matA_get, lM, lS, eMU, eSU, d3, d4, List.cons_append, List.nil_append, hcl, hpd, lU2, hset2', List.filterMap_cons, List.filterMap_nil, List.contains_nil, List.contains_cons, Bool.not_false, Bool.not_true, Bool.or_true, Bool.true_or, List.nil_append, List.cons_append, Nat.reduceLT, decide_true, decide_false, List.drop_succ_cons]
          rw [ForK_normal]
          refine ⟨hlt, by simp (disch := first | (simp only [go_sem, gb0, eq_self]; done) | omega | (simp only [gl1, gl2]; omega)) only [go_sem, ↓reduceIte, Nat.reduceEqDiff, Nat.reduceAdd, Nat.reduceMul, Nat.reduceSub, Int.reduceToNat, Nat.reduceBEq, s16], by simp (disch := first | (simp only [go_sem, gb0, eq_self]; done) | omega | (simp only [gl1, gl2]; omega)) only [go_sem, ↓reduceIte, Nat.reduceEqDiff, Nat.reduceAdd, Nat.reduceMul, Nat.reduceSub, Int.reduceToNat, Nat.reduceBEq, s0], by simp (disch := first | (simp only [go_sem, gb0, eq_self]; done) | omega | (simp only [gl1, gl2]; omega)) only [go_sem, ↓reduceIte, Nat.reduceEqDiff, Nat.reduceAdd, Nat.reduceMul, Nat.reduceSub, Int.reduceToNat, Nat.reduceBEq, s1], by simp (disch := first | (simp only [go_sem, gb0, eq_self]; done) | omega | (simp only [gl1, gl2]; omega)) only [go_sem, ↓reduceIte, Nat.reduceEqDiff, Nat.reduceAdd, Nat.reduceMul, Nat.reduceSub, Int.reduceToNat, Nat.reduceBEq, s2], by simp (disch := first | (simp only [go_sem, gb0, eq_self]; done) | omega | (simp only [gl1, gl2]; omega)) only [go_sem, ↓reduceIte, Nat.reduceEqDiff, Nat.reduceAdd, Nat.reduceMul, Nat.reduceSub, Int.reduceToNat, Nat.reduceBEq, s3], by simp (disch := first | (simp only [go_sem, gb0, eq_self]; done) | omega | (simp only [gl1, gl2]; omega)) only [go_sem, ↓reduceIte, Nat.reduceEqDiff, Nat.reduceAdd, Nat.reduceMul, Nat.reduceSub, Int.reduceToNat, Nat.reduceBEq, s4], by simp (disch := first | (simp only [go_sem, gb0, eq_self]; done) | omega | (simp only [gl1, gl2]; omega)) only [go_sem, ↓reduceIte, Nat.reduceEqDiff, Nat.reduceAdd, Nat.reduceMul, Nat.reduceSub, Int.reduceToNat, Nat.reduceBEq, s5], by simp (disch := first | (simp only [go_sem, gb0, eq_self]; done) | omega | (simp only [gl1, gl2]; omega)) only [go_sem, ↓reduceIte, Nat.reduceEqDiff, Nat.reduceAdd, Nat.reduceMul, Nat.reduceSub, Int.reduceToNat, Nat.reduceBEq, s15], ?_, by simp (disch := first | (simp only [go_sem, gb0, eq_self]; done) | omega | (simp only [gl1, gl2]; omega)) only [go_sem, ↓reduceIte, Nat.reduceEqDiff, Nat.reduceAdd, Nat.reduceMul, Nat.reduceSub, Int.reduceToNat, Nat.reduceBEq, s9, q1, q3], ?_⟩
          · have hw : prtF (repM X rep) row s c + (prtF (repM X rep) row s (c + 1) - prtF (repM X rep) row s c) = prtF (repM X rep) row s (c + 1) := by omega
            simp (disch := first | (simp only [go_sem, gb0, eq_self]; done) | omega | (simp only [gl1, gl2]; omega)) only [go_sem, ↓reduceIte, Nat.reduceEqDiff, Nat.reduceAdd, Nat.reduceMul, Nat.reduceSub, Int.reduceToNat, Nat.reduceBEq, hw]
          · rw [put_put]; exact put_same bU
        · have ha4 : c = a := by rw [ha, if_neg hcr]
          subst ha4
          simp (disch := first | (simp only [go_sem, gb0, eq_self]; done) | omega | (simp only [gl1, gl2]; omega)) only [go_sem, ↓reduceIte, Nat.reduceEqDiff, Nat.reduceAdd, Nat.reduceMul, Nat.reduceSub, Int.reduceToNat, Nat.reduceBEq, s0, s1, s2, s3, s4, s5, s15, s8, s9, s16, hlt, hlt', hc4, hc4', bU, bR, bM, eU, hcr, hx0, hrow4, hrow4', matA_get, lU1, hset', ↓stopY 13 true]
          refine WPy_go (fun st h2 => st 0 = I row ∧ st 1 = .ptr N 0 ∧ st 2 = .ptr U 0 ∧ st 3 = .ptr R 0 ∧ st 4 = .ptr M 0 ∧ st 5 = .ptr S 0 ∧ st 15 = I n ∧ st 8 = I (prtF (repM X rep) row s c) ∧ st 9 = I (sg (cardB (s.take c))) ∧ st 10 = I c ∧ st 16 = I c ∧ st 11 = I c ∧ h2 = h'.put U (some (.cells false false ((useL (s.set c false)).flatMap (e1 AV.bool))))) ⟨by simp (disch := first | (simp only [go_sem, gb0, eq_self]; done) | omega | (simp only [gl1, gl2]; omega)) only [go_sem, ↓reduceIte, Nat.reduceEqDiff, Nat.reduceAdd, Nat.reduceMul, Nat.reduceSub, Int.reduceToNat, Nat.reduceBEq, s0, s1, s2, s3, s4, s5, s15, s8, s9, s16], by simp (disch := first | (simp only [go_sem, gb0, eq_self]; done) | omega | (simp only [gl1, gl2]; omega)) only [go_sem, ↓reduceIte, Nat.reduceEqDiff, Nat.reduceAdd, Nat.reduceMul, Nat.reduceSub, Int.reduceToNat, Nat.reduceBEq, s0, s1, s2, s3, s4, s5, s15, s8, s9, s16], by simp (disch := first | (simp only [go_sem, gb0, eq_self]; done) | omega | (simp only [gl1, gl2]; omega)) only [go_sem, ↓reduceIte, Nat.reduceEqDiff, Nat.reduceAdd, Nat.reduceMul, Nat.reduceSub, Int.reduceToNat, Nat.reduceBEq, s0, s1, s2, s3, s4, s5, s15, s8, s9, s16], by simp (disch := first | (simp only [go_sem, gb0, eq_self]; done) | omega | (simp only [gl1, gl2]; omega)) only [go_sem, ↓reduceIte, Nat.reduceEqDiff, Nat.reduceAdd, Nat.reduceMul, Nat.reduceSub, Int.reduceToNat, Nat.reduceBEq, s0, s1, s2, s3, s4, s5, s15, s8, s9, s16], by simp (disch := first | (simp only [go_sem, gb0, eq_self]; done) | omega | (simp only [gl1, gl2]; omega)) only [go_sem, ↓reduceIte, Nat.reduceEqDiff, Nat.reduceAdd, Nat.reduceMul, Nat.reduceSub, Int.reduceToNat, Nat.reduceBEq, s0, s1, s2, s3, s4, s5, s15, s8, s9, s16], by simp (disch := first | (simp only [go_sem, gb0, eq_self]; done) | omega | (simp only [gl1, gl2]; omega)) only [go_sem, ↓reduceIte, Nat.reduceEqDiff, Nat.reduceAdd, Nat.reduceMul, Nat.reduceSub, Int.reduceToNat, Nat.reduceBEq, s0, s1, s2, s3, s4, s5, s15, s8, s9, s16], by simp (disch := first | (simp only [go_sem, gb0, eq_self]; done) | omega | (simp only [gl1, gl2]; omega)) only [go_sem, ↓reduceIte, Nat.reduceEqDiff, Nat.reduceAdd, Nat.reduceMul, Nat.reduceSub, Int.reduceToNat, Nat.reduceBEq, s0, s1, s2, s3, s4, s5, s15, s8, s9, s16], by simp (disch := first | (simp only [go_sem, gb0, eq_self]; done) | omega | (simp only [gl1, gl2]; omega)) only [go_sem, ↓reduceIte, Nat.reduceEqDiff, Nat.reduceAdd, Nat.reduceMul, Nat.reduceSub, Int.reduceToNat, Nat.reduceBEq, s0, s1, s2, s3, s4, s5, s15, s8, s9, s16], by simp (disch := first | (simp only [go_sem, gb0, eq_self]; done) | omega | (simp only [gl1, gl2]; omega)) only [go_sem, ↓reduceIte, Nat.reduceEqDiff, Nat.reduceAdd, Nat.reduceMul, Nat.reduceSub, Int.reduceToNat, Nat.reduceBEq, s0, s1, s2, s3, s4, s5, s15, s8, s9, s16], by simp (disch := first | (simp only [go_sem, gb0, eq_self]; done) | omega | (simp only [gl1, gl2]; omega)) only [go_sem, ↓reduceIte, Nat.reduceEqDiff, Nat.reduceAdd, Nat.reduceMul, Nat.reduceSub, Int.reduceToNat, Nat.reduceBEq, s0, s1, s2, s3, s4, s5, s15, s8, s9, s16], by simp (disch := first | (simp only [go_sem, gb0, eq_self]; done) | omega | (simp only [gl1, gl2]; omega)) only [go_sem, ↓reduceIte, Nat.reduceEqDiff, Nat.reduceAdd, Nat.reduceMul, Nat.reduceSub, Int.reduceToNat, Nat.reduceBEq, s0, s1, s2, s3, s4, s5, s15, s8, s9, s16], by simp (disch := first | (simp only [go_sem, gb0, eq_self]; done) | omega | (simp only [gl1, gl2]; omega)) only [go_sem, ↓reduceIte, Nat.reduceEqDiff, Nat.reduceAdd, Nat.reduceMul, Nat.reduceSub, Int.reduceToNat, Nat.reduceBEq], rfl⟩ ?_
          clear s0 s1 s2 s3 s4 s5 s15 s8 s9 s16
          rintro st h2 ⟨s0, s1, s2, s3, s4, s5, s15, s8, s9, s10, s16, s11, rfl⟩
          simp (maxSteps := 3000000) (disch := first | (simp only [go_sem, gb0, eq_self]; done) | omega | (simp only [gl1, gl2]; omega)) only [go_sem, ↓reduceIte, Nat.reduceEqDiff, Nat.reduceAdd, Nat.reduceMul, Nat.reduceSub, Int.reduceToNat, Nat.reduceBEq, s0, s1, s2, s3, s4, s5, s15, s8, s9, s10, s16, s11, hc4, hc4', bM, bS, hrow4, hrow4', matA_get, lM, lS, eMU, eSU, d3, d4, List.cons_append, List.nil_append, hcl, hpd, lU2, hset2', List.filterMap_cons, List.filterMap_nil, List.contains_nil, List.contains_cons, Bool.not_false, Bool.not_true, Bool.or_true, Bool.true_or, List.nil_append, List.cons_append, Nat.reduceLT, decide_true, decide_false, List.drop_succ_cons]
          rw [ForK_normal]
          refine ⟨hlt, by simp (disch := first | (simp only [go_sem, gb0, eq_self]; done) | omega | (simp only [gl1, gl2]; omega)) only [go_sem, ↓reduceIte, Nat.reduceEqDiff, Nat.reduceAdd, Nat.reduceMul, Nat.reduceSub, Int.reduceToNat, Nat.reduceBEq, s16], by simp (disch := first | (simp only [go_sem, gb0, eq_self]; done) | omega | (simp only [gl1, gl2]; omega)) only [go_sem, ↓reduceIte, Nat.reduceEqDiff, Nat.reduceAdd, Nat.reduceMul, Nat.reduceSub, Int.reduceToNat, Nat.reduceBEq, s0], by simp (disch := first | (simp only [go_sem, gb0, eq_self]; done) | omega | (simp only [gl1, gl2]; omega)) only [go_sem, ↓reduceIte, Nat.reduceEqDiff, Nat.reduceAdd, Nat.reduceMul, Nat.reduceSub, Int.reduceToNat, Nat.reduceBEq, s1], by simp (disch := first | (simp only [go_sem, gb0, eq_self]; done) | omega | (simp only [gl1, gl2]; omega)) only [go_sem, ↓reduceIte, Nat.reduceEqDiff, Nat.reduceAdd, Nat.reduceMul, Nat.reduceSub, Int.reduceToNat, Nat.reduceBEq, s2], by simp (disch := first | (simp only [go_sem, gb0, eq_self]; done) | omega | (simp only [gl1, gl2]; omega)) only [go_sem, ↓reduceIte, Nat.reduceEqDiff, Nat.reduceAdd, Nat.reduceMul, Nat.reduceSub, Int.reduceToNat, Nat.reduceBEq, s3], by simp (disch := first | (simp only [go_sem, gb0, eq_self]; done) | omega | (simp only [gl1, gl2]; omega)) only [go_sem, ↓reduceIte, Nat.reduceEqDiff, Nat.reduceAdd, Nat.reduceMul, Nat.reduceSub, Int.reduceToNat, Nat.reduceBEq, s4], by simp (disch := first | (simp only [go_sem, gb0, eq_self]; done) | omega | (simp only [gl1, gl2]; omega)) only [go_sem, ↓reduceIte, Nat.reduceEqDiff, Nat.reduceAdd, Nat.reduceMul, Nat.reduceSub, Int.reduceToNat, Nat.reduceBEq, s5], by simp (disch := first | (simp only [go_sem, gb0, eq_self]; done) | omega | (simp only [gl1, gl2]; omega)) only [go_sem, ↓reduceIte, Nat.reduceEqDiff, Nat.reduceAdd, Nat.reduceMul, Nat.reduceSub, Int.reduceToNat, Nat.reduceBEq, s15], ?_, by simp (disch := first | (simp only [go_sem, gb0, eq_self]; done) | omega | (simp only [gl1, gl2]; omega)) only [go_sem, ↓reduceIte, Nat.reduceEqDiff, Nat.reduceAdd, Nat.reduceMul, Nat.reduceSub, Int.reduceToNat, Nat.reduceBEq, s9, q1, q3], ?_⟩
          · have hw : prtF (repM X rep) row s c + (prtF (repM X rep) row s (c + 1) - prtF (repM X rep) row s c) = prtF (repM X rep) row s (c + 1) := by omega
            simp (disch := first | (simp only [go_sem, gb0, eq_self]; done) | omega | (simp only [gl1, gl2]; omega)) only [go_sem, ↓reduceIte, Nat.reduceEqDiff, Nat.reduceAdd, Nat.reduceMul, Nat.reduceSub, Int.reduceToNat, Nat.reduceBEq, hw]
          · rw [put_put]; exact put_same bU

theorem f83_con {n : Nat} {X : Mat} {rep : Int} (hn : n ≤ 4) (hX : ∀ r c, absI (X r c) ≤ 41) : Con Try.prog cfg 83 [.agg (matA X), I n, I rep] (I (det n (repM X rep))) := by
  have hal : ∀ g : Hp, allocB g (some (.agg (matA X))) = some (.ptr g.nx 0, g.alloc (.cells false false (matA X))) := fun g => allocB_agg _ (matA_cell _)
  have hal2 : ∀ g : Hp, allocB g (some (.agg [.bool false, .bool false, .bool false, .bool false])) = some (.ptr g.nx 0, g.alloc (.cells false false ((List.replicate 4 false).flatMap (e1 AV.bool)))) := fun g => allocB_agg _ rfl
  have hu : useL (List.replicate n true) = List.replicate 4 false := by
    match n, hn with
    | 0, _ => rfl
    | 1, _ => rfl
    | 2, _ => rfl
    | 3, _ => rfl
    | 4, _ => rfl
  obtain ⟨H, hH⟩ : ∃ H : Hp, H = (((((Hp.empty.alloc (.cells false false (matA X))).alloc (.cells false false [I n])).alloc (.cells false false [I rep])).alloc (.cells false false ((List.replicate 4 false).flatMap (e1 AV.bool)))).alloc (.cells false false [.nilfn])).put 4 (some (.cells false false [.fn 85 [.ptr 1 0, .ptr 3 0, .ptr 2 0, .ptr 0 0, .ptr 4 0]])) := ⟨_, rfl⟩
  have hs := f85_shr (n := n) (N := 1) (U := 3) (R := 2) (M := 0) (S := 4) (X := X) (rep := rep) hn hX (by decide) (by decide) (by decide) (by decide) n 0 (List.replicate n true) H (by simp) (by simp [cardB]) (by omega)
    (by rw [hH]; show 1 < 5; decide) (by rw [hH]; show 2 < 5; decide) (by rw [hH]; show 0 < 5; decide) (by rw [hH]; show 4 < 5; decide) (by rw [hH]; rfl) (by rw [hH, hu]; rfl) (by rw [hH]; rfl) (by rw [hH]; rfl) (by rw [hH]; rfl)
  rw [detF_full] at hs
  have hb := absI_le.1 (detF_bound (M := repM X rep) (fun r c => hX _ _) 0 (s := List.replicate n true) (by simp [cardB]; exact hn))
  rw [detF_full] at hb
  have hcl := fun K => CallW_shr (K := K) 85 _ shr85 hs
  rw [hH] at hcl
  refine Con_intro Try.func83 rfl ok83 (Nat.le_of_ble_eq_true rfl) rfl ?_
  simp only [Try.f83, Option.getD_some, initSt3]
  simp (disch := first | (simp only [go_sem, gb0, eq_self]; done) | omega | (simp only [gl1, gl2]; omega)) only [go_sem, ↓reduceIte, Nat.reduceEqDiff, Nat.reduceAdd, Nat.reduceMul, Nat.reduceSub, Int.reduceToNat, Nat.reduceBEq, hal, hal2, List.cons_append, List.nil_append]
  refine Eq.mpr (hcl _) ?_
  simp (disch := first | (simp only [go_sem, gb0, eq_self]; done) | omega | (simp only [gl1, gl2]; omega)) only [go_sem, ↓reduceIte, Nat.reduceEqDiff, Nat.reduceAdd, Nat.reduceMul, Nat.reduceSub, Int.reduceToNat, Nat.reduceBEq]
end Go.Proofs.Ytcdpkgmkckfonaa

set_option linter.unusedVariables false
set_option linter.unusedSimpArgs false
namespace Go.Proofs.Ytcdpkgmkckfonaa
open Go Go.Am

abbrev Tab := Nat → Nat → Int
/-- The constraints of a side with m own acts: no number is negative, and no column (sg = 1) or each column (sg = -1) gains at least the right side. -/
def CX (m : Nat) (P : Tab) (sg : Int) (l i : Nat) : Int := if l < m then (if i = l then 1 else 0) else - sg * P i (l - m)
def rX (m : Nat) (sg : Int) (w : Vec) (l : Nat) : Int := if l < m then 0 else - sg * w (l - m)
def S0 (m n : Nat) : List Bool := List.replicate m true ++ List.replicate n false
section
variable {m n : Nat} {P : Tab} {sg : Int} {M W : Int}
/-- A corner of the given system, at which the constraints of s are tight. -/
structure Vtx (m n : Nat) (P : Tab) (sg : Int) (s : List Bool) : Prop where
  len : s.length = m + n
  card : cardB s = m
  ind : Indep m (CX m P sg) s
  pt : ∃ x t, 0 < t ∧ ∀ l, l < m + n → 0 ≤ gap m (CX m P sg) (rX m sg fun _ => 1) x t l ∧ (onB s l = true → gap m (CX m P sg) (rX m sg fun _ => 1) x t l = 0)
end
end Go.Proofs.Ytcdpkgmkckfonaa

set_option linter.unusedVariables false
set_option linter.unusedSimpArgs false
set_option maxRecDepth 10000
namespace Go.Proofs.Ytcdpkgmkckfonaa
open Go Go.Am

variable {h h' : Hp} {K : AV → Hp → Prop}

/-- A table of gains. -/
structure Tb (a : List (List Int)) (m n : Nat) : Prop where
  m1 : 1 ≤ m
  m4 : m ≤ 4
  n1 : 1 ≤ n
  n4 : n ≤ 4
  len : a.length = m
  row : ∀ i, i < m → (nth a i).length = n
  bd : ∀ i, i < m → ∀ j, j < n → -20 ≤ nth (nth a i) j ∧ nth (nth a i) j ≤ 20
/-- All gains made positive. -/
def PT (a : List (List Int)) : Tab := fun i j => nth (nth a i) j + 21
/-- What a column gains against numbers of the rows. -/
def gainC (a : List (List Int)) (m : Nat) (xs : List Int) (j : Nat) : Int := sumN (fun i => nth xs i * PT a i j) m
def sumC (m : Nat) (xs : List Int) : Int := sumN (fun i => nth xs i) m
def labF (a : List (List Int)) (m : Nat) (xs : List Int) (den : Int) (k : Nat) : Bool := if k < m then decide (nth xs k = 0) else decide (gainC a m xs (k - m) = den)
def labC (a : List (List Int)) (m n : Nat) (xs : List Int) (den : Int) : List Bool := fillR 8 (labF a m xs den) false (m + n)
def okLab (a : List (List Int)) (m n : Nat) (xs : List Int) (den : Int) : Bool :=
  (List.range m).all (fun i => decide (0 ≤ nth xs i)) && ((List.range n).all (fun j => decide (gainC a m xs j ≤ den)) && decide (0 < sumC m xs))

/-- A corner in memory. -/
abbrev cbl (v : AV) (d : Int) (bs : List Bool) : Blk := .cells false false (v :: I d :: bs.flatMap (e1 AV.bool))
@[go_sem] theorem cbl_store (id i : Nat) (v : AV) (d : Int) (bs : List Bool) (b : Bool) (hi : i < bs.length) : storeC h id (2 + i) 1 (some (cbl v d bs)) [.bool b] = some (.skp, h.put id (some (cbl v d (bs.set i b)))) := by
  rw [storeC_one id _ false _ (.bool b) rfl (by simp only [List.length_cons, flat_len]; omega)]
  have : (v :: I d :: bs.flatMap (e1 AV.bool)).set (2 + i) (.bool b) = v :: I d :: (bs.set i b).flatMap (e1 AV.bool) := by
    rw [Nat.add_comm, List.set_cons_succ, List.set_cons_succ, set_flat]
  rw [this]
theorem nums_b {xs : List Int} {m : Nat} (hb : ∀ x ∈ xs, -723394816 ≤ x ∧ x ≤ 723394816) (hl : xs.length = m) {i : Nat} (hi : i < m) : -723394816 ≤ nth xs i ∧ nth xs i ≤ 723394816 := hb _ (nth_mem (by omega))
theorem PT_b {a : List (List Int)} {m n : Nat} (T : Tb a m n) {i j : Nat} (hi : i < m) (hj : j < n) : 1 ≤ PT a i j ∧ PT a i j ≤ 41 := by have := T.bd i hi j hj; unfold PT; omega
theorem prod_b {x y : Int} (hx : -723394816 ≤ x ∧ x ≤ 723394816) (hy : 1 ≤ y ∧ y ≤ 41) : -29659187456 ≤ x * y ∧ x * y ≤ 29659187456 := by
  constructor
  · have h1 : -723394816 * y ≤ x * y := Int.mul_le_mul_of_nonneg_right hx.1 (by omega)
    have h2 : -723394816 * 41 ≤ -723394816 * y := by omega
    omega
  · have h1 : x * y ≤ 723394816 * y := Int.mul_le_mul_of_nonneg_right hx.2 (by omega)
    omega
theorem sum_part_b {f : Nat → Int} {B : Int} (hB : 0 ≤ B) {m : Nat} (hf : ∀ i, i < m → -B ≤ f i ∧ f i ≤ B) : ∀ k, k ≤ m → -(k * B) ≤ sumN f k ∧ sumN f k ≤ k * B
  | 0, _ => by simp [sumN]
  | k + 1, hk => by
    have h1 := sum_part_b hB hf k (by omega)
    have h2 := hf k (by omega)
    have h3 : ((k + 1 : Nat) : Int) * B = k * B + B := by rw [Int.natCast_add, Int.add_mul]; omega
    rw [sumN, h3]; omega

set_option maxHeartbeats 1000000 in
theorem f84_shr {a : List (List Int)} {m n : Nat} (T : Tb a m n) {xs : List Int} {den : Int} {C id : Nat} (hl : xs.length = m) (hb : ∀ x ∈ xs, -723394816 ≤ x ∧ x ≤ 723394816) (hd : C ≠ id) (hC : C < h.nx)
    (bC : h.bl C = some (cbl (.sl id 0 m 1) den (List.replicate 8 false))) (bI : h.bl id = some (.cells false true (xs.flatMap (e1 I)))) :
    ∃ h', Shr Try.prog cfg 84 [.ptr C 0, LLI a] h (.bool (okLab a m n xs den)) h' ∧ h'.nx = h.nx ∧ (∀ k, k ≠ C → h'.bl k = h.bl k) ∧
      ∃ d bs, h'.bl C = some (cbl (.sl id 0 m 1) d bs) ∧ bs.length = 8 ∧ (okLab a m n xs den = true → d = sumC m xs ∧ bs = labC a m n xs den) := by
  have hm1 := T.m1
  have hm4 := T.m4
  have hn1 := T.n1
  have hn4 := T.n4
  suffices hh : ∃ v h', Shr Try.prog cfg 84 [.ptr C 0, LLI a] h v h' ∧ (v = .bool (okLab a m n xs den) ∧ h'.nx = h.nx ∧ (∀ k, k ≠ C → h'.bl k = h.bl k) ∧
      ∃ d bs, h'.bl C = some (cbl (.sl id 0 m 1) d bs) ∧ bs.length = 8 ∧ (okLab a m n xs den = true → d = sumC m xs ∧ bs = labC a m n xs den)) by
    obtain ⟨v, h', hs, rfl, r⟩ := hh
    exact ⟨h', hs, r⟩
  have hla := T.len
  have hl0 := T.row 0 (by omega)
  refine Shr_intro Try.func84 rfl ok84 (Nat.le_of_ble_eq_true rfl) ?_
  simp only [Try.f84, Option.getD_some, initSt2]
  simp (disch := first | (simp only [go_sem, gb0, eq_self]; done) | omega | (simp only [gl1, gl2]; omega)) only [go_sem, ↓reduceIte, Nat.reduceEqDiff, Nat.reduceAdd, Nat.reduceMul, Nat.reduceSub, Int.reduceToNat, Nat.reduceBEq, bC, hla]
  refine WP_cut (fun st g => st 0 = .ptr C 0 ∧ st 1 = LLI a ∧ st 5 = I m ∧ st 6 = I (sumC m xs) ∧ g.nx = h.nx ∧ (∀ k, k ≠ C → g.bl k = h.bl k) ∧ g.bl C = some (cbl (.sl id 0 m 1) den (fillR 8 (labF a m xs den) false m)) ∧ ∀ k, k < m → 0 ≤ nth xs k) ?_ ?_
  · refine WP_for 21 m (fun i st g => st 0 = .ptr C 0 ∧ st 1 = LLI a ∧ st 5 = I m ∧ st 19 = .sl id 0 m 1 ∧ st 20 = I m ∧ st 6 = I (sumN (fun i => nth xs i) i) ∧ g.nx = h.nx ∧ (∀ k, k ≠ C → g.bl k = h.bl k) ∧ g.bl C = some (cbl (.sl id 0 m 1) den (fillR 8 (labF a m xs den) false i)) ∧ ∀ k, k < i → 0 ≤ nth xs k) (by simp (disch := first | (simp only [go_sem, gb0, eq_self]; done) | omega | (simp only [gl1, gl2]; omega)) only [go_sem, ↓reduceIte, Nat.reduceEqDiff, Nat.reduceAdd, Nat.reduceMul, Nat.reduceSub, Int.reduceToNat, Nat.reduceBEq]) ⟨by simp (disch := first | (simp only [go_sem, gb0, eq_self]; done) | omega | (simp only [gl1, gl2]; omega)) only [go_sem, ↓reduceIte, Nat.reduceEqDiff, Nat.reduceAdd, Nat.reduceMul, Nat.reduceSub, Int.reduceToNat, Nat.reduceBEq], by simp (disch := first | (simp only [go_sem, gb0, eq_self]; done) | omega | (simp only [gl1, gl2]; omega)) only [go_sem, ↓reduceIte, Nat.reduceEqDiff, Nat.reduceAdd, Nat.reduceMul, Nat.reduceSub, Int.reduceToNat, Nat.reduceBEq], by simp (disch := first | (simp only [go_sem, gb0, eq_self]; done) | omega | (simp only [gl1, gl2]; omega)) only [go_sem, ↓reduceIte, Nat.reduceEqDiff, Nat.reduceAdd, Nat.reduceMul, Nat.reduceSub, Int.reduceToNat, Nat.reduceBEq], by simp (disch := first | (simp only [go_sem, gb0, eq_self]; done) | omega | (simp only [gl1, gl2]; omega)) only [go_sem, ↓reduceIte, Nat.reduceEqDiff, Nat.reduceAdd, Nat.reduceMul, Nat.reduceSub, Int.reduceToNat, Nat.reduceBEq], by simp (disch := first | (simp only [go_sem, gb0, eq_self]; done) | omega | (simp only [gl1, gl2]; omega)) only [go_sem, ↓reduceIte, Nat.reduceEqDiff, Nat.reduceAdd, Nat.reduceMul, Nat.reduceSub, Int.reduceToNat, Nat.reduceBEq], by simp (disch := first | (simp only [go_sem, gb0, eq_self]; done) | omega | (simp only [gl1, gl2]; omega)) only [go_sem, ↓reduceIte, Nat.reduceEqDiff, Nat.reduceAdd, Nat.reduceMul, Nat.reduceSub, Int.reduceToNat, Nat.reduceBEq]; rfl, rfl, fun _ _ => rfl, by rw [fillR_zero]; exact bC, fun k hk => by omega⟩ ?_
    rintro i st g hi s21 ⟨s0, s1, s5, s19, s20, s6, gn, gk, gC, hnn⟩
    by_cases hlt : i < m
    case neg =>
      have hie : i = m := by omega
      subst hie
      simp (disch := first | (simp only [go_sem, gb0, eq_self]; done) | omega | (simp only [gl1, gl2]; omega)) only [go_sem, ↓reduceIte, Nat.reduceEqDiff, Nat.reduceAdd, Nat.reduceMul, Nat.reduceSub, Int.reduceToNat, Nat.reduceBEq, s0, s1, s5, s19, s20, s6, s21, hlt]
      exact ⟨rfl, gn, gk, gC, hnn⟩
    have gI := (gk id (Ne.symm hd)).trans bI
    have eI : (xs.flatMap (e1 I))[i]? = some (I (nth xs i)) := by rw [flat_get _ _ _ (by omega)]
    have bx := nums_b hb hl hlt
    have hlt' : (i : Int) < m := by omega
    have sb := sum_part_b (f := fun i => nth xs i) (B := 723394816) (by decide) (fun i hi => nums_b hb hl hi) i hi
    have sb2 := sum_part_b (f := fun i => nth xs i) (B := 723394816) (by decide) (fun i hi => nums_b hb hl hi) (i + 1) hlt
    by_cases hng : nth xs i < 0
    · have hok : okLab a m n xs den = false := by
        have : (List.range m).all (fun i => decide (0 ≤ nth xs i)) = false := by
          rw [List.all_eq_false]; exact ⟨i, List.mem_range.2 hlt, by simp; omega⟩
        rw [okLab, this]; rfl
      simp (disch := first | (simp only [go_sem, gb0, eq_self]; done) | omega | (simp only [gl1, gl2]; omega)) only [go_sem, ↓reduceIte, Nat.reduceEqDiff, Nat.reduceAdd, Nat.reduceMul, Nat.reduceSub, Int.reduceToNat, Nat.reduceBEq, s0, s1, s5, s19, s20, s6, s21, hlt, hlt', gI, eI, hng]
      exact ⟨by rw [hok], gn, gk, den, _, gC, fillR_len _ _ _ _, fun h => by rw [hok] at h; cases h⟩
    · have hi8 : i < (fillR 8 (labF a m xs den) false i).length := by rw [fillR_len]; omega
      have hi8' : (i : Int) < 8 := by omega
      have hf : labF a m xs den i = decide (nth xs i = 0) := by rw [labF, if_pos hlt]
      have hset : (fillR 8 (labF a m xs den) false i).set i (decide (nth xs i = 0)) = fillR 8 (labF a m xs den) false (i + 1) := by rw [← hf]; exact fillR_set (by omega)
      simp (disch := first | (simp only [go_sem, gb0, eq_self]; done) | omega | (simp only [gl1, gl2]; omega)) only [go_sem, ↓reduceIte, Nat.reduceEqDiff, Nat.reduceAdd, Nat.reduceMul, Nat.reduceSub, Int.reduceToNat, Nat.reduceBEq, s0, s1, s5, s19, s20, s6, s21, hlt, hlt', gI, eI, hng, gC, hi8, hi8', hset]
      rw [ForK_normal]
      refine ⟨hlt, by simp (disch := first | (simp only [go_sem, gb0, eq_self]; done) | omega | (simp only [gl1, gl2]; omega)) only [go_sem, ↓reduceIte, Nat.reduceEqDiff, Nat.reduceAdd, Nat.reduceMul, Nat.reduceSub, Int.reduceToNat, Nat.reduceBEq, s21], by simp (disch := first | (simp only [go_sem, gb0, eq_self]; done) | omega | (simp only [gl1, gl2]; omega)) only [go_sem, ↓reduceIte, Nat.reduceEqDiff, Nat.reduceAdd, Nat.reduceMul, Nat.reduceSub, Int.reduceToNat, Nat.reduceBEq, s0], by simp (disch := first | (simp only [go_sem, gb0, eq_self]; done) | omega | (simp only [gl1, gl2]; omega)) only [go_sem, ↓reduceIte, Nat.reduceEqDiff, Nat.reduceAdd, Nat.reduceMul, Nat.reduceSub, Int.reduceToNat, Nat.reduceBEq, s1], by simp (disch := first | (simp only [go_sem, gb0, eq_self]; done) | omega | (simp only [gl1, gl2]; omega)) only [go_sem, ↓reduceIte, Nat.reduceEqDiff, Nat.reduceAdd, Nat.reduceMul, Nat.reduceSub, Int.reduceToNat, Nat.reduceBEq, s5], by simp (disch := first | (simp only [go_sem, gb0, eq_self]; done) | omega | (simp only [gl1, gl2]; omega)) only [go_sem, ↓reduceIte, Nat.reduceEqDiff, Nat.reduceAdd, Nat.reduceMul, Nat.reduceSub, Int.reduceToNat, Nat.reduceBEq, s19], by simp (disch := first | (simp only [go_sem, gb0, eq_self]; done) | omega | (simp only [gl1, gl2]; omega)) only [go_sem, ↓reduceIte, Nat.reduceEqDiff, Nat.reduceAdd, Nat.reduceMul, Nat.reduceSub, Int.reduceToNat, Nat.reduceBEq, s20], ?_, gn, fun k hk => by simp [upd, Hp.put, Hp.alloc, hk]; exact gk k hk, by simp (disch := first | (simp only [go_sem, gb0, eq_self]; done) | omega | (simp only [gl1, gl2]; omega)) only [go_sem, ↓reduceIte, Nat.reduceEqDiff, Nat.reduceAdd, Nat.reduceMul, Nat.reduceSub, Int.reduceToNat, Nat.reduceBEq], fun k hk => ?_⟩
      · have hw : sumN (fun i => nth xs i) i + nth xs i = sumN (fun i => nth xs i) (i + 1) := rfl
        simp (disch := first | (simp only [go_sem, gb0, eq_self]; done) | omega | (simp only [gl1, gl2]; omega)) only [go_sem, ↓reduceIte, Nat.reduceEqDiff, Nat.reduceAdd, Nat.reduceMul, Nat.reduceSub, Int.reduceToNat, Nat.reduceBEq, s6, hw]
      · by_cases e : k = i
        · subst e; omega
        · exact hnn k (by omega)
  rintro st g ⟨s0, s1, s5, s6, gn, gk, gC, hnn⟩
  have hbs := sum_part_b (f := fun i => nth xs i) (B := 723394816) (by decide) (fun i hi => nums_b hb hl hi) m (Nat.le_refl _)
  simp (disch := first | (simp only [go_sem, gb0, eq_self]; done) | omega | (simp only [gl1, gl2]; omega)) only [go_sem, ↓reduceIte, Nat.reduceEqDiff, Nat.reduceAdd, Nat.reduceMul, Nat.reduceSub, Int.reduceToNat, Nat.reduceBEq, s0, s1, s5, s6, hl0]
  refine WP_cut (fun st g => st 0 = .ptr C 0 ∧ st 1 = LLI a ∧ st 5 = I m ∧ st 6 = I (sumC m xs) ∧ g.nx = h.nx ∧ (∀ k, k ≠ C → g.bl k = h.bl k) ∧ g.bl C = some (cbl (.sl id 0 m 1) den (labC a m n xs den)) ∧ ∀ j, j < n → gainC a m xs j ≤ den) ?_ ?_
  · refine WP_for 43 n (fun j st g => st 0 = .ptr C 0 ∧ st 1 = LLI a ∧ st 5 = I m ∧ st 6 = I (sumC m xs) ∧ st 42 = I n ∧ g.nx = h.nx ∧ (∀ k, k ≠ C → g.bl k = h.bl k) ∧ g.bl C = some (cbl (.sl id 0 m 1) den (fillR 8 (labF a m xs den) false (m + j))) ∧ ∀ k, k < j → gainC a m xs k ≤ den) (by simp (disch := first | (simp only [go_sem, gb0, eq_self]; done) | omega | (simp only [gl1, gl2]; omega)) only [go_sem, ↓reduceIte, Nat.reduceEqDiff, Nat.reduceAdd, Nat.reduceMul, Nat.reduceSub, Int.reduceToNat, Nat.reduceBEq]) ⟨by simp (disch := first | (simp only [go_sem, gb0, eq_self]; done) | omega | (simp only [gl1, gl2]; omega)) only [go_sem, ↓reduceIte, Nat.reduceEqDiff, Nat.reduceAdd, Nat.reduceMul, Nat.reduceSub, Int.reduceToNat, Nat.reduceBEq, s0, s1, s5, s6], by simp (disch := first | (simp only [go_sem, gb0, eq_self]; done) | omega | (simp only [gl1, gl2]; omega)) only [go_sem, ↓reduceIte, Nat.reduceEqDiff, Nat.reduceAdd, Nat.reduceMul, Nat.reduceSub, Int.reduceToNat, Nat.reduceBEq, s0, s1, s5, s6], by simp (disch := first | (simp only [go_sem, gb0, eq_self]; done) | omega | (simp only [gl1, gl2]; omega)) only [go_sem, ↓reduceIte, Nat.reduceEqDiff, Nat.reduceAdd, Nat.reduceMul, Nat.reduceSub, Int.reduceToNat, Nat.reduceBEq, s0, s1, s5, s6], by simp (disch := first | (simp only [go_sem, gb0, eq_self]; done) | omega | (simp only [gl1, gl2]; omega)) only [go_sem, ↓reduceIte, Nat.reduceEqDiff, Nat.reduceAdd, Nat.reduceMul, Nat.reduceSub, Int.reduceToNat, Nat.reduceBEq, s0, s1, s5, s6], by simp (disch := first | (simp only [go_sem, gb0, eq_self]; done) | omega | (simp only [gl1, gl2]; omega)) only [go_sem, ↓reduceIte, Nat.reduceEqDiff, Nat.reduceAdd, Nat.reduceMul, Nat.reduceSub, Int.reduceToNat, Nat.reduceBEq, s0, s1, s5, s6], gn, gk, gC, fun k hk => by omega⟩ ?_
    clear s0 s1 s5 s6 gC gk gn
    rintro j st g hj s43 ⟨s0, s1, s5, s6, s42, gn, gk, gC, hle⟩
    by_cases hlt : j < n
    case neg =>
      have hje : j = n := by omega
      subst hje
      simp (disch := first | (simp only [go_sem, gb0, eq_self]; done) | omega | (simp only [gl1, gl2]; omega)) only [go_sem, ↓reduceIte, Nat.reduceEqDiff, Nat.reduceAdd, Nat.reduceMul, Nat.reduceSub, Int.reduceToNat, Nat.reduceBEq, s0, s1, s5, s6, s42, s43, hlt]
      exact ⟨gn, gk, gC, hle⟩
    have hlt' : (j : Int) < n := by omega
    simp (disch := first | (simp only [go_sem, gb0, eq_self]; done) | omega | (simp only [gl1, gl2]; omega)) only [go_sem, ↓reduceIte, Nat.reduceEqDiff, Nat.reduceAdd, Nat.reduceMul, Nat.reduceSub, Int.reduceToNat, Nat.reduceBEq, s0, s1, s5, s6, s42, s43, hlt, hlt', gC]
    refine WP_cut (fun st g' => st 0 = .ptr C 0 ∧ st 1 = LLI a ∧ st 5 = I m ∧ st 6 = I (sumC m xs) ∧ st 42 = I n ∧ st 9 = I j ∧ st 43 = I j ∧ st 10 = I (gainC a m xs j) ∧ g' = g) ?_ ?_
    · refine WP_for 52 m (fun i st g' => st 0 = .ptr C 0 ∧ st 1 = LLI a ∧ st 5 = I m ∧ st 6 = I (sumC m xs) ∧ st 42 = I n ∧ st 9 = I j ∧ st 43 = I j ∧ st 50 = .sl id 0 m 1 ∧ st 51 = I m ∧ st 10 = I (sumN (fun i => nth xs i * PT a i j) i) ∧ g' = g) (by simp (disch := first | (simp only [go_sem, gb0, eq_self]; done) | omega | (simp only [gl1, gl2]; omega)) only [go_sem, ↓reduceIte, Nat.reduceEqDiff, Nat.reduceAdd, Nat.reduceMul, Nat.reduceSub, Int.reduceToNat, Nat.reduceBEq]) ⟨by simp (disch := first | (simp only [go_sem, gb0, eq_self]; done) | omega | (simp only [gl1, gl2]; omega)) only [go_sem, ↓reduceIte, Nat.reduceEqDiff, Nat.reduceAdd, Nat.reduceMul, Nat.reduceSub, Int.reduceToNat, Nat.reduceBEq, s0, s1, s5, s6, s42, s43], by simp (disch := first | (simp only [go_sem, gb0, eq_self]; done) | omega | (simp only [gl1, gl2]; omega)) only [go_sem, ↓reduceIte, Nat.reduceEqDiff, Nat.reduceAdd, Nat.reduceMul, Nat.reduceSub, Int.reduceToNat, Nat.reduceBEq, s0, s1, s5, s6, s42, s43], by simp (disch := first | (simp only [go_sem, gb0, eq_self]; done) | omega | (simp only [gl1, gl2]; omega)) only [go_sem, ↓reduceIte, Nat.reduceEqDiff, Nat.reduceAdd, Nat.reduceMul, Nat.reduceSub, Int.reduceToNat, Nat.reduceBEq, s0, s1, s5, s6, s42, s43], by simp (disch := first | (simp only [go_sem, gb0, eq_self]; done) | omega | (simp only [gl1, gl2]; omega)) only [go_sem, ↓reduceIte, Nat.reduceEqDiff, Nat.reduceAdd, Nat.reduceMul, Nat.reduceSub, Int.reduceToNat, Nat.reduceBEq, s0, s1, s5, s6, s42, s43], by simp (disch := first | (simp only [go_sem, gb0, eq_self]; done) | omega | (simp only [gl1, gl2]; omega)) only [go_sem, ↓reduceIte, Nat.reduceEqDiff, Nat.reduceAdd, Nat.reduceMul, Nat.reduceSub, Int.reduceToNat, Nat.reduceBEq, s0, s1, s5, s6, s42, s43], by simp (disch := first | (simp only [go_sem, gb0, eq_self]; done) | omega | (simp only [gl1, gl2]; omega)) only [go_sem, ↓reduceIte, Nat.reduceEqDiff, Nat.reduceAdd, Nat.reduceMul, Nat.reduceSub, Int.reduceToNat, Nat.reduceBEq, s0, s1, s5, s6, s42, s43], by simp (disch := first | (simp only [go_sem, gb0, eq_self]; done) | omega | (simp only [gl1, gl2]; omega)) only [go_sem, ↓reduceIte, Nat.reduceEqDiff, Nat.reduceAdd, Nat.reduceMul, Nat.reduceSub, Int.reduceToNat, Nat.reduceBEq, s0, s1, s5, s6, s42, s43], by simp (disch := first | (simp only [go_sem, gb0, eq_self]; done) | omega | (simp only [gl1, gl2]; omega)) only [go_sem, ↓reduceIte, Nat.reduceEqDiff, Nat.reduceAdd, Nat.reduceMul, Nat.reduceSub, Int.reduceToNat, Nat.reduceBEq, s0, s1, s5, s6, s42, s43], by simp (disch := first | (simp only [go_sem, gb0, eq_self]; done) | omega | (simp only [gl1, gl2]; omega)) only [go_sem, ↓reduceIte, Nat.reduceEqDiff, Nat.reduceAdd, Nat.reduceMul, Nat.reduceSub, Int.reduceToNat, Nat.reduceBEq, s0, s1, s5, s6, s42, s43], by simp (disch := first | (simp only [go_sem, gb0, eq_self]; done) | omega | (simp only [gl1, gl2]; omega)) only [go_sem, ↓reduceIte, Nat.reduceEqDiff, Nat.reduceAdd, Nat.reduceMul, Nat.reduceSub, Int.reduceToNat, Nat.reduceBEq]; rfl, rfl⟩ ?_
      clear s0 s1 s5 s6 s42 s43
      rintro i st g' hi s52 ⟨s0, s1, s5, s6, s42, s9, s43, s50, s51, s10, rfl⟩
      by_cases hlm : i < m
      case neg =>
        have hie : i = m := by omega
        subst hie
        simp (disch := first | (simp only [go_sem, gb0, eq_self]; done) | omega | (simp only [gl1, gl2]; omega)) only [go_sem, ↓reduceIte, Nat.reduceEqDiff, Nat.reduceAdd, Nat.reduceMul, Nat.reduceSub, Int.reduceToNat, Nat.reduceBEq, s0, s1, s5, s6, s42, s9, s43, s50, s51, s10, s52, hlm]
        rfl
      have hlm' : (i : Int) < m := by omega
      have gI := (gk id (Ne.symm hd)).trans bI
      have eI : (xs.flatMap (e1 I))[i]? = some (I (nth xs i)) := by rw [flat_get _ _ _ (by omega)]
      have bx := nums_b hb hl hlm
      have hli : i < a.length := by omega
      have hlj : j < (nth a i).length := by rw [T.row i hlm]; exact hlt
      have hlj' : (j : Int) < (nth a i).length := by omega
      have hli' : (i : Int) < a.length := by omega
      have hbd := T.bd i hlm j hlt
      have hpt : nth (nth a i) j + 21 = PT a i j := rfl
      have pb := PT_b T hlm hlt
      have pp := prod_b bx pb
      have sb := sum_part_b (f := fun i => nth xs i * PT a i j) (B := 29659187456) (by decide) (fun i hi => prod_b (nums_b hb hl hi) (PT_b T hi hlt)) i hi
      have sb2 := sum_part_b (f := fun i => nth xs i * PT a i j) (B := 29659187456) (by decide) (fun i hi => prod_b (nums_b hb hl hi) (PT_b T hi hlt)) (i + 1) hlm
      simp (disch := first | (simp only [go_sem, gb0, eq_self]; done) | omega | (simp only [gl1, gl2]; omega)) only [go_sem, ↓reduceIte, Nat.reduceEqDiff, Nat.reduceAdd, Nat.reduceMul, Nat.reduceSub, Int.reduceToNat, Nat.reduceBEq, s0, s1, s5, s6, s42, s9, s43, s50, s51, s10, s52, hlm, hlm', gI, eI, hli, hli', hlj, hlj', hpt]
      rw [ForK_normal]
      refine ⟨hlm, by simp (disch := first | (simp only [go_sem, gb0, eq_self]; done) | omega | (simp only [gl1, gl2]; omega)) only [go_sem, ↓reduceIte, Nat.reduceEqDiff, Nat.reduceAdd, Nat.reduceMul, Nat.reduceSub, Int.reduceToNat, Nat.reduceBEq, s52], by simp (disch := first | (simp only [go_sem, gb0, eq_self]; done) | omega | (simp only [gl1, gl2]; omega)) only [go_sem, ↓reduceIte, Nat.reduceEqDiff, Nat.reduceAdd, Nat.reduceMul, Nat.reduceSub, Int.reduceToNat, Nat.reduceBEq, s0], by simp (disch := first | (simp only [go_sem, gb0, eq_self]; done) | omega | (simp only [gl1, gl2]; omega)) only [go_sem, ↓reduceIte, Nat.reduceEqDiff, Nat.reduceAdd, Nat.reduceMul, Nat.reduceSub, Int.reduceToNat, Nat.reduceBEq, s1], by simp (disch := first | (simp only [go_sem, gb0, eq_self]; done) | omega | (simp only [gl1, gl2]; omega)) only [go_sem, ↓reduceIte, Nat.reduceEqDiff, Nat.reduceAdd, Nat.reduceMul, Nat.reduceSub, Int.reduceToNat, Nat.reduceBEq, s5], by simp (disch := first | (simp only [go_sem, gb0, eq_self]; done) | omega | (simp only [gl1, gl2]; omega)) only [go_sem, ↓reduceIte, Nat.reduceEqDiff, Nat.reduceAdd, Nat.reduceMul, Nat.reduceSub, Int.reduceToNat, Nat.reduceBEq, s6], by simp (disch := first | (simp only [go_sem, gb0, eq_self]; done) | omega | (simp only [gl1, gl2]; omega)) only [go_sem, ↓reduceIte, Nat.reduceEqDiff, Nat.reduceAdd, Nat.reduceMul, Nat.reduceSub, Int.reduceToNat, Nat.reduceBEq, s42], by simp (disch := first | (simp only [go_sem, gb0, eq_self]; done) | omega | (simp only [gl1, gl2]; omega)) only [go_sem, ↓reduceIte, Nat.reduceEqDiff, Nat.reduceAdd, Nat.reduceMul, Nat.reduceSub, Int.reduceToNat, Nat.reduceBEq, s9], by simp (disch := first | (simp only [go_sem, gb0, eq_self]; done) | omega | (simp only [gl1, gl2]; omega)) only [go_sem, ↓reduceIte, Nat.reduceEqDiff, Nat.reduceAdd, Nat.reduceMul, Nat.reduceSub, Int.reduceToNat, Nat.reduceBEq, s43], by simp (disch := first | (simp only [go_sem, gb0, eq_self]; done) | omega | (simp only [gl1, gl2]; omega)) only [go_sem, ↓reduceIte, Nat.reduceEqDiff, Nat.reduceAdd, Nat.reduceMul, Nat.reduceSub, Int.reduceToNat, Nat.reduceBEq, s50], by simp (disch := first | (simp only [go_sem, gb0, eq_self]; done) | omega | (simp only [gl1, gl2]; omega)) only [go_sem, ↓reduceIte, Nat.reduceEqDiff, Nat.reduceAdd, Nat.reduceMul, Nat.reduceSub, Int.reduceToNat, Nat.reduceBEq, s51], ?_, rfl⟩
      have hw : sumN (fun i => nth xs i * PT a i j) i + nth xs i * PT a i j = sumN (fun i => nth xs i * PT a i j) (i + 1) := rfl
      simp (disch := first | (simp only [go_sem, gb0, eq_self]; done) | omega | (simp only [gl1, gl2]; omega)) only [go_sem, ↓reduceIte, Nat.reduceEqDiff, Nat.reduceAdd, Nat.reduceMul, Nat.reduceSub, Int.reduceToNat, Nat.reduceBEq, s10, hw]
    clear s0 s1 s5 s6 s42 s43
    rintro st g' ⟨s0, s1, s5, s6, s42, s9, s43, s10, rfl⟩
    by_cases hgt : gainC a m xs j ≤ den
    case neg =>
      have hgt' : den < gainC a m xs j := by omega
      have hok : okLab a m n xs den = false := by
        have : (List.range n).all (fun j => decide (gainC a m xs j ≤ den)) = false := by
          rw [List.all_eq_false]; exact ⟨j, List.mem_range.2 hlt, by simp; omega⟩
        rw [okLab, this]; simp
      simp (disch := first | (simp only [go_sem, gb0, eq_self]; done) | omega | (simp only [gl1, gl2]; omega)) only [go_sem, ↓reduceIte, Nat.reduceEqDiff, Nat.reduceAdd, Nat.reduceMul, Nat.reduceSub, Int.reduceToNat, Nat.reduceBEq, s0, s1, s5, s6, s42, s9, s43, s10, gC, hgt']
      exact ⟨by rw [hok], gn, gk, den, _, rfl, fillR_len _ _ _ _, fun h => by rw [hok] at h; cases h⟩
    have hgt' : ¬ den < gainC a m xs j := by omega
    have lC : C < g'.nx := by omega
    have hi8 : m + j < (fillR 8 (labF a m xs den) false (m + j)).length := by rw [fillR_len]; omega
    have hi8' : (m : Int) + j < 8 := by omega
    have htn : ((m : Int) + (j : Int)).toNat = m + j := by omega
    have hf : labF a m xs den (m + j) = decide (gainC a m xs j = den) := by rw [labF, if_neg (by omega), show m + j - m = j by omega]
    have hset : (fillR 8 (labF a m xs den) false (m + j)).set (m + j) (decide (gainC a m xs j = den)) = fillR 8 (labF a m xs den) false (m + (j + 1)) := by rw [← hf]; exact fillR_set (by omega)
    simp (disch := first | (simp only [go_sem, gb0, eq_self]; done) | omega | (simp only [gl1, gl2]; omega)) only [go_sem, ↓reduceIte, Nat.reduceEqDiff, Nat.reduceAdd, Nat.reduceMul, Nat.reduceSub, Int.reduceToNat, Nat.reduceBEq, s0, s1, s5, s6, s42, s9, s43, s10, gC, hgt', hi8, hi8', hset]
    rw [ForK_normal]
    refine ⟨hlt, by simp (disch := first | (simp only [go_sem, gb0, eq_self]; done) | omega | (simp only [gl1, gl2]; omega)) only [go_sem, ↓reduceIte, Nat.reduceEqDiff, Nat.reduceAdd, Nat.reduceMul, Nat.reduceSub, Int.reduceToNat, Nat.reduceBEq, s43], by simp (disch := first | (simp only [go_sem, gb0, eq_self]; done) | omega | (simp only [gl1, gl2]; omega)) only [go_sem, ↓reduceIte, Nat.reduceEqDiff, Nat.reduceAdd, Nat.reduceMul, Nat.reduceSub, Int.reduceToNat, Nat.reduceBEq, s0], by simp (disch := first | (simp only [go_sem, gb0, eq_self]; done) | omega | (simp only [gl1, gl2]; omega)) only [go_sem, ↓reduceIte, Nat.reduceEqDiff, Nat.reduceAdd, Nat.reduceMul, Nat.reduceSub, Int.reduceToNat, Nat.reduceBEq, s1], by simp (disch := first | (simp only [go_sem, gb0, eq_self]; done) | omega | (simp only [gl1, gl2]; omega)) only [go_sem, ↓reduceIte, Nat.reduceEqDiff, Nat.reduceAdd, Nat.reduceMul, Nat.reduceSub, Int.reduceToNat, Nat.reduceBEq, s5], by simp (disch := first | (simp only [go_sem, gb0, eq_self]; done) | omega | (simp only [gl1, gl2]; omega)) only [go_sem, ↓reduceIte, Nat.reduceEqDiff, Nat.reduceAdd, Nat.reduceMul, Nat.reduceSub, Int.reduceToNat, Nat.reduceBEq, s6], by simp (disch := first | (simp only [go_sem, gb0, eq_self]; done) | omega | (simp only [gl1, gl2]; omega)) only [go_sem, ↓reduceIte, Nat.reduceEqDiff, Nat.reduceAdd, Nat.reduceMul, Nat.reduceSub, Int.reduceToNat, Nat.reduceBEq, s42], gn, fun k hk => by simp [upd, Hp.put, Hp.alloc, hk]; exact gk k hk, by simp (disch := first | (simp only [go_sem, gb0, eq_self]; done) | omega | (simp only [gl1, gl2]; omega)) only [go_sem, ↓reduceIte, Nat.reduceEqDiff, Nat.reduceAdd, Nat.reduceMul, Nat.reduceSub, Int.reduceToNat, Nat.reduceBEq, htn, hset], fun k hk => ?_⟩
    by_cases e : k = j
    · subst e; omega
    · exact hle k (by omega)
  clear s0 s1 s5 s6 gC gk gn
  rintro st g ⟨s0, s1, s5, s6, gn, gk, gC, hle⟩
  have hst : storeC g C 1 1 (some (cbl (.sl id 0 m 1) den (labC a m n xs den))) [I (sumC m xs)] = some (.skp, g.put C (some (cbl (.sl id 0 m 1) (sumC m xs) (labC a m n xs den)))) := by
    rw [storeC_one C 1 false _ (I (sumC m xs)) rfl (by simp only [List.length_cons]; omega)]; rfl
  have hok : okLab a m n xs den = decide (0 < sumC m xs) := by
    have h1 : (List.range m).all (fun i => decide (0 ≤ nth xs i)) = true := by
      rw [List.all_eq_true]; intro i hi; exact decide_eq_true (hnn i (List.mem_range.1 hi))
    have h2 : (List.range n).all (fun j => decide (gainC a m xs j ≤ den)) = true := by
      rw [List.all_eq_true]; intro i hi; exact decide_eq_true (hle i (List.mem_range.1 hi))
    rw [okLab, h1, h2]; rfl
  simp (disch := first | (simp only [go_sem, gb0, eq_self]; done) | omega | (simp only [gl1, gl2]; omega)) only [go_sem, ↓reduceIte, Nat.reduceEqDiff, Nat.reduceAdd, Nat.reduceMul, Nat.reduceSub, Int.reduceToNat, Nat.reduceBEq, s0, s1, s5, s6, gC, hst]
  exact ⟨by rw [hok], gn, fun k hk => by simp [upd, Hp.put, Hp.alloc, hk]; exact gk k hk, _, labC a m n xs den, by simp (disch := first | (simp only [go_sem, gb0, eq_self]; done) | omega | (simp only [gl1, gl2]; omega)) only [go_sem, ↓reduceIte, Nat.reduceEqDiff, Nat.reduceAdd, Nat.reduceMul, Nat.reduceSub, Int.reduceToNat, Nat.reduceBEq], fillR_len _ _ _ _, fun _ => ⟨rfl, rfl⟩⟩
end Go.Proofs.Ytcdpkgmkckfonaa

set_option linter.unusedVariables false
set_option linter.unusedSimpArgs false
set_option maxRecDepth 10000
namespace Go.Proofs.Ytcdpkgmkckfonaa
open Go Go.Am

variable {h h' : Hp} {K : AV → Hp → Prop}

theorem export_seal (t : TypeId) {i o n s : Nat} {r : AV} {h h2 : Hp} (hs : sealA h (.sl i o n s) = some (r, h2)) (hn : isTup r = false) : exportR Try.prog false false [t] h (.sl i o n s) = some r := by
  show (exportV Try.prog false false t h [] (.sl i o n s)).bind _ = _
  rw [exportV_plain, hs]
  simp only [Option.map_some, Option.bind_some, hn]
  rfl
/-- The first k numbers of a column. -/
def colL (a : List (List Int)) (j k : Nat) : List Int := (List.range k).map fun i => nth (nth a i) j
def turnL (a : List (List Int)) (m n : Nat) : List (List Int) := (List.range n).map fun j => colL a j m
/-- The columns while they are filled. -/
def tuR (a : List (List Int)) (n i j : Nat) : List (List Int) := (List.range n).map fun j' => colL a j' (if j' < j then i + 1 else i)
theorem colL_len (a : List (List Int)) (j k : Nat) : (colL a j k).length = k := by simp [colL]
theorem tuR_len (a : List (List Int)) (n i j : Nat) : (tuR a n i j).length = n := by simp [tuR]
theorem tuR_nth {a : List (List Int)} {n i j k : Nat} (hk : k < n) : nth (tuR a n i j) k = colL a k (if k < j then i + 1 else i) := nth_map_range _ _ _ hk
theorem tuR_next (a : List (List Int)) (n i : Nat) : tuR a n i n = tuR a n (i + 1) 0 := by
  unfold tuR
  refine List.map_congr_left fun k hk => ?_
  rw [if_pos (List.mem_range.1 hk), if_neg (by omega)]
theorem tuR_set {a : List (List Int)} {n i j : Nat} (hj : j < n) : (tuR a n i j).set j (colL a j i ++ [nth (nth a i) j]) = tuR a n i (j + 1) := by
  refine list_ext_nth (by simp [tuR_len]) fun k hk => ?_
  rw [List.length_set, tuR_len] at hk
  rw [nth_set _ _ _ _ (by rw [tuR_len]; exact hj), tuR_nth hk, tuR_nth hk]
  by_cases h : j = k
  · subst h
    rw [if_pos rfl, if_pos (by omega), colL, colL, rows_snoc]
  · rw [if_neg h]
    by_cases h2 : k < j
    · rw [if_pos h2, if_pos (by omega)]
    · rw [if_neg h2, if_neg (by omega)]
theorem tuR_zero (a : List (List Int)) (n : Nat) : tuR a n 0 0 = List.replicate n [] := by
  refine list_ext_nth (by simp [tuR_len]) fun i hi => ?_
  rw [tuR_len] at hi
  rw [tuR_nth hi, nth_replicate _ _ _ hi, if_neg (by omega)]; rfl
theorem tuR_full (a : List (List Int)) (m n : Nat) : tuR a n m 0 = turnL a m n := by
  unfold tuR turnL
  refine List.map_congr_left fun i hi => ?_
  rw [if_neg (by omega)]
theorem turnL_nth {a : List (List Int)} {m n i j : Nat} (hi : i < m) (hj : j < n) : nth (nth (turnL a m n) j) i = nth (nth a i) j := by
  rw [turnL, nth_map_range _ _ _ hj, colL, nth_map_range _ _ _ hi]
theorem turnL_Tb {a : List (List Int)} {m n : Nat} (T : Tb a m n) : Tb (turnL a m n) n m := by
  refine ⟨T.n1, T.n4, T.m1, T.m4, by simp [turnL], fun i hi => ?_, fun i hi j hj => ?_⟩
  · rw [turnL, nth_map_range _ _ _ hi, colL_len]
  · rw [turnL_nth hj hi]; exact T.bd j hj i hi

theorem f53_con {a : List (List Int)} {m n : Nat} (T : Tb a m n) : Con Try.prog cfg 53 [LLI a] (LLI (turnL a m n)) := by
  have hm1 := T.m1
  have hm4 := T.m4
  have hn1 := T.n1
  have hn4 := T.n4
  have hl := T.len
  have hr0 := T.row 0 (by omega)
  have h0 : 0 < a.length := by omega
  have hmk := makeB_sl (P := Try.prog) (h := Hp.empty) 31 (n : Int) isz31 ibytes31 izero31 (by omega) (by omega)
  refine Con_intro Try.func53 rfl ok53 (Nat.le_of_ble_eq_true rfl) rfl ?_
  simp only [Try.f53, Option.getD_some, initSt1]
  simp (disch := first | (simp only [go_sem, gb0, eq_self]; done) | omega | (simp only [gl1, gl2]; omega)) only [go_sem, ↓reduceIte, Nat.reduceEqDiff, Nat.reduceAdd, Nat.reduceMul, Nat.reduceSub, Int.reduceToNat, Nat.reduceBEq, hl, hr0, h0, hm1, hmk]
  refine WP_for 15 m (fun i st h => st 3 = .sl 0 0 n 1 ∧ st 13 = LLI a ∧ st 14 = I m ∧ 1 ≤ h.nx ∧ ∃ flat, h.bl 0 = some (.cells false true flat) ∧ RowsAt (e1 I) 1 h flat (tuR a n i 0) ∧ ∀ (j id off n s : Nat), flat[j]? = some (AV.sl id off n s) → id ≠ 0)
    (by simp (disch := first | (simp only [go_sem, gb0, eq_self]; done) | omega | (simp only [gl1, gl2]; omega)) only [go_sem, ↓reduceIte, Nat.reduceEqDiff, Nat.reduceAdd, Nat.reduceMul, Nat.reduceSub, Int.reduceToNat, Nat.reduceBEq]) ⟨by simp (disch := first | (simp only [go_sem, gb0, eq_self]; done) | omega | (simp only [gl1, gl2]; omega)) only [go_sem, ↓reduceIte, Nat.reduceEqDiff, Nat.reduceAdd, Nat.reduceMul, Nat.reduceSub, Int.reduceToNat, Nat.reduceBEq], by simp (disch := first | (simp only [go_sem, gb0, eq_self]; done) | omega | (simp only [gl1, gl2]; omega)) only [go_sem, ↓reduceIte, Nat.reduceEqDiff, Nat.reduceAdd, Nat.reduceMul, Nat.reduceSub, Int.reduceToNat, Nat.reduceBEq], by simp (disch := first | (simp only [go_sem, gb0, eq_self]; done) | omega | (simp only [gl1, gl2]; omega)) only [go_sem, ↓reduceIte, Nat.reduceEqDiff, Nat.reduceAdd, Nat.reduceMul, Nat.reduceSub, Int.reduceToNat, Nat.reduceBEq], by simp (disch := first | (simp only [go_sem, gb0, eq_self]; done) | omega | (simp only [gl1, gl2]; omega)) only [go_sem, ↓reduceIte, Nat.reduceEqDiff, Nat.reduceAdd, Nat.reduceMul, Nat.reduceSub, Int.reduceToNat, Nat.reduceBEq, Nat.le_refl], _, by simp (disch := first | (simp only [go_sem, gb0, eq_self]; done) | omega | (simp only [gl1, gl2]; omega)) only [go_sem, ↓reduceIte, Nat.reduceEqDiff, Nat.reduceAdd, Nat.reduceMul, Nat.reduceSub, Int.reduceToNat, Nat.reduceBEq]; rfl, by rw [tuR_zero]; exact RowsAt.nils _, ?_⟩ ?_
  · intro j id off n s hj
    rw [List.getElem?_replicate] at hj
    split at hj <;> cases hj
  rintro i st h hi s15 ⟨s3, s13, s14, hnx, flat, b0, hrows, hne0⟩
  by_cases hlt : i < m
  case neg =>
    have hke : i = m := by omega
    subst hke
    rw [tuR_full] at hrows
    have hcl : (turnL a i n).length = n := by simp [turnL]
    have hpu : AV.pureL flat = false := by
      have h0 : 0 < flat.length := by rw [hrows.len, hcl]; omega
      have o := hrows.own 0 _ (List.getElem?_eq_getElem h0)
      have hn0 : nth (turnL a i n) 0 = colL a 0 i := nth_map_range _ _ _ (by omega)
      obtain ⟨id, q, _⟩ := o.sl (by rw [hn0, colL_len]; omega)
      cases hfl : flat with
      | nil => rw [hfl] at h0; cases h0
      | cons w ws =>
        simp only [hfl, List.getElem_cons_zero] at q
        rw [q]; rfl
    obtain ⟨h2, z1, _⟩ := sealA_rows hrows 0 n false true b0 hcl.symm hpu hne0
    simp (disch := first | (simp only [go_sem, gb0, eq_self]; done) | omega | (simp only [gl1, gl2]; omega)) only [go_sem, ↓reduceIte, Nat.reduceEqDiff, Nat.reduceAdd, Nat.reduceMul, Nat.reduceSub, Int.reduceToNat, Nat.reduceBEq, s3, s13, s14, s15, hlt]
    exact export_seal 22 z1 rfl
  have hri := T.row i hlt
  have hia : i < a.length := by omega
  simp (disch := first | (simp only [go_sem, gb0, eq_self]; done) | omega | (simp only [gl1, gl2]; omega)) only [go_sem, ↓reduceIte, Nat.reduceEqDiff, Nat.reduceAdd, Nat.reduceMul, Nat.reduceSub, Int.reduceToNat, Nat.reduceBEq, s3, s13, s14, s15, hlt, hl, hri, hia]
  refine WP_for 21 n (fun j st h => st 3 = .sl 0 0 n 1 ∧ st 13 = LLI a ∧ st 14 = I m ∧ st 15 = I i ∧ st 19 = LI (nth a i) ∧ st 20 = I n ∧ 1 ≤ h.nx ∧ ∃ flat, h.bl 0 = some (.cells false true flat) ∧ RowsAt (e1 I) 1 h flat (tuR a n i j) ∧ ∀ (j id off n s : Nat), flat[j]? = some (AV.sl id off n s) → id ≠ 0)
    (by simp (disch := first | (simp only [go_sem, gb0, eq_self]; done) | omega | (simp only [gl1, gl2]; omega)) only [go_sem, ↓reduceIte, Nat.reduceEqDiff, Nat.reduceAdd, Nat.reduceMul, Nat.reduceSub, Int.reduceToNat, Nat.reduceBEq]) ⟨by simp (disch := first | (simp only [go_sem, gb0, eq_self]; done) | omega | (simp only [gl1, gl2]; omega)) only [go_sem, ↓reduceIte, Nat.reduceEqDiff, Nat.reduceAdd, Nat.reduceMul, Nat.reduceSub, Int.reduceToNat, Nat.reduceBEq, s3, s13, s14, s15], by simp (disch := first | (simp only [go_sem, gb0, eq_self]; done) | omega | (simp only [gl1, gl2]; omega)) only [go_sem, ↓reduceIte, Nat.reduceEqDiff, Nat.reduceAdd, Nat.reduceMul, Nat.reduceSub, Int.reduceToNat, Nat.reduceBEq, s3, s13, s14, s15], by simp (disch := first | (simp only [go_sem, gb0, eq_self]; done) | omega | (simp only [gl1, gl2]; omega)) only [go_sem, ↓reduceIte, Nat.reduceEqDiff, Nat.reduceAdd, Nat.reduceMul, Nat.reduceSub, Int.reduceToNat, Nat.reduceBEq, s3, s13, s14, s15], by simp (disch := first | (simp only [go_sem, gb0, eq_self]; done) | omega | (simp only [gl1, gl2]; omega)) only [go_sem, ↓reduceIte, Nat.reduceEqDiff, Nat.reduceAdd, Nat.reduceMul, Nat.reduceSub, Int.reduceToNat, Nat.reduceBEq, s3, s13, s14, s15], by simp (disch := first | (simp only [go_sem, gb0, eq_self]; done) | omega | (simp only [gl1, gl2]; omega)) only [go_sem, ↓reduceIte, Nat.reduceEqDiff, Nat.reduceAdd, Nat.reduceMul, Nat.reduceSub, Int.reduceToNat, Nat.reduceBEq, s3, s13, s14, s15], by simp (disch := first | (simp only [go_sem, gb0, eq_self]; done) | omega | (simp only [gl1, gl2]; omega)) only [go_sem, ↓reduceIte, Nat.reduceEqDiff, Nat.reduceAdd, Nat.reduceMul, Nat.reduceSub, Int.reduceToNat, Nat.reduceBEq, s3, s13, s14, s15], hnx, flat, by simp (disch := first | (simp only [go_sem, gb0, eq_self]; done) | omega | (simp only [gl1, gl2]; omega)) only [go_sem, ↓reduceIte, Nat.reduceEqDiff, Nat.reduceAdd, Nat.reduceMul, Nat.reduceSub, Int.reduceToNat, Nat.reduceBEq, b0], hrows, hne0⟩ ?_
  rintro j st h hj s21 ⟨s3, s13, s14, s15, s19, s20, hnx, flat, b0, hrows, hne0⟩
  by_cases hjl : j < n
  case neg =>
    have hje : j = n := by omega
    subst hje
    simp (disch := first | (simp only [go_sem, gb0, eq_self]; done) | omega | (simp only [gl1, gl2]; omega)) only [go_sem, ↓reduceIte, Nat.reduceEqDiff, Nat.reduceAdd, Nat.reduceMul, Nat.reduceSub, Int.reduceToNat, Nat.reduceBEq, s3, s13, s14, s15, s19, s20, s21, hjl]
    rw [ForK_normal]
    exact ⟨hlt, by simp (disch := first | (simp only [go_sem, gb0, eq_self]; done) | omega | (simp only [gl1, gl2]; omega)) only [go_sem, ↓reduceIte, Nat.reduceEqDiff, Nat.reduceAdd, Nat.reduceMul, Nat.reduceSub, Int.reduceToNat, Nat.reduceBEq, s15], by simp (disch := first | (simp only [go_sem, gb0, eq_self]; done) | omega | (simp only [gl1, gl2]; omega)) only [go_sem, ↓reduceIte, Nat.reduceEqDiff, Nat.reduceAdd, Nat.reduceMul, Nat.reduceSub, Int.reduceToNat, Nat.reduceBEq, s3], by simp (disch := first | (simp only [go_sem, gb0, eq_self]; done) | omega | (simp only [gl1, gl2]; omega)) only [go_sem, ↓reduceIte, Nat.reduceEqDiff, Nat.reduceAdd, Nat.reduceMul, Nat.reduceSub, Int.reduceToNat, Nat.reduceBEq, s13], by simp (disch := first | (simp only [go_sem, gb0, eq_self]; done) | omega | (simp only [gl1, gl2]; omega)) only [go_sem, ↓reduceIte, Nat.reduceEqDiff, Nat.reduceAdd, Nat.reduceMul, Nat.reduceSub, Int.reduceToNat, Nat.reduceBEq, s14], hnx, flat, b0, by rw [← tuR_next]; exact hrows, hne0⟩
  have hfll : flat.length = n := by rw [hrows.len, tuR_len]
  obtain ⟨v, hv⟩ : ∃ v, flat[j]? = some v := ⟨_, List.getElem?_eq_getElem (by omega)⟩
  have how := hrows.own j v hv
  rw [tuR_nth hjl, if_neg (by omega)] at how
  have hjr : j < (nth a i).length := by omega
  have hbs := fun h : Hp => bsB_one (P := Try.prog) (h := h) 3 (I (nth (nth a i) j)) (I (nth (nth a i) j)) (I 0) h isz3 izero3 rfl rfl rfl rfl rfl rfl rfl
  have happ := app_one (P := Try.prog) how 3 8 (I 0) (nth (nth a i) j) isz3 ibytes3 izero3 rfl (by rw [colL_len]; omega) (by rw [colL_len]; omega)
  have c0 : (appH h v ((colL a j i ++ [nth (nth a i) j]).flatMap (e1 I))).bl 0 = some (.cells false true flat) := by
    rw [appH_bl _ _ _ _ (by omega) (fun id off n s e => by subst e; exact (hne0 j id off n s hv).symm)]; exact b0
  have hstv : ∀ (h : Hp) (id o n s : Nat), storeC h 0 j 1 (some (.cells false true flat)) [.sl id o n s] = some (.skp, h.put 0 (some (.cells false true (flat.set j (.sl id o n s))))) := fun h id o n s => storeC_one 0 j true flat _ rfl (by omega)
  have hjn : (j : Int) < n := by omega
  simp (disch := first | (simp only [go_sem, gb0, eq_self]; done) | omega | (simp only [gl1, gl2]; omega)) only [go_sem, ↓reduceIte, Nat.reduceEqDiff, Nat.reduceAdd, Nat.reduceMul, Nat.reduceSub, Int.reduceToNat, Nat.reduceBEq, s3, s13, s14, s15, s19, s20, s21, hjl, hjn, hjr, hri, b0, hv, hbs, happ, c0, hstv, appV, hfll]
  rw [ForK_normal]
  have hrows2 := hrows.app hv (colL a j i ++ [nth (nth a i) j]) 0 (.cells false true (flat.set j (appV h (colL a j i ++ [nth (nth a i) j]).length 1))) hne0 (by omega)
  rw [tuR_set hjl] at hrows2
  unfold appV at hrows2
  refine ⟨hjl, by simp (disch := first | (simp only [go_sem, gb0, eq_self]; done) | omega | (simp only [gl1, gl2]; omega)) only [go_sem, ↓reduceIte, Nat.reduceEqDiff, Nat.reduceAdd, Nat.reduceMul, Nat.reduceSub, Int.reduceToNat, Nat.reduceBEq, s21], by simp (disch := first | (simp only [go_sem, gb0, eq_self]; done) | omega | (simp only [gl1, gl2]; omega)) only [go_sem, ↓reduceIte, Nat.reduceEqDiff, Nat.reduceAdd, Nat.reduceMul, Nat.reduceSub, Int.reduceToNat, Nat.reduceBEq, s3], by simp (disch := first | (simp only [go_sem, gb0, eq_self]; done) | omega | (simp only [gl1, gl2]; omega)) only [go_sem, ↓reduceIte, Nat.reduceEqDiff, Nat.reduceAdd, Nat.reduceMul, Nat.reduceSub, Int.reduceToNat, Nat.reduceBEq, s13], by simp (disch := first | (simp only [go_sem, gb0, eq_self]; done) | omega | (simp only [gl1, gl2]; omega)) only [go_sem, ↓reduceIte, Nat.reduceEqDiff, Nat.reduceAdd, Nat.reduceMul, Nat.reduceSub, Int.reduceToNat, Nat.reduceBEq, s14], by simp (disch := first | (simp only [go_sem, gb0, eq_self]; done) | omega | (simp only [gl1, gl2]; omega)) only [go_sem, ↓reduceIte, Nat.reduceEqDiff, Nat.reduceAdd, Nat.reduceMul, Nat.reduceSub, Int.reduceToNat, Nat.reduceBEq, s15], by simp (disch := first | (simp only [go_sem, gb0, eq_self]; done) | omega | (simp only [gl1, gl2]; omega)) only [go_sem, ↓reduceIte, Nat.reduceEqDiff, Nat.reduceAdd, Nat.reduceMul, Nat.reduceSub, Int.reduceToNat, Nat.reduceBEq, s19], by simp (disch := first | (simp only [go_sem, gb0, eq_self]; done) | omega | (simp only [gl1, gl2]; omega)) only [go_sem, ↓reduceIte, Nat.reduceEqDiff, Nat.reduceAdd, Nat.reduceMul, Nat.reduceSub, Int.reduceToNat, Nat.reduceBEq, s20], by rw [put_nx, appH_nx]; omega, _, by simp (disch := first | (simp only [go_sem, gb0, eq_self]; done) | omega | (simp only [gl1, gl2]; omega)) only [go_sem, ↓reduceIte, Nat.reduceEqDiff, Nat.reduceAdd, Nat.reduceMul, Nat.reduceSub, Int.reduceToNat, Nat.reduceBEq], hrows2, ?_⟩
  intro k id off n' s hi
  rw [List.getElem?_set] at hi
  split at hi
  · split at hi
    · cases hi; omega
    · cases hi
  · exact hne0 k id off n' s hi
theorem k53 {a : List (List Int)} {m n : Nat} (T : Tb a m n) : ConW Try.prog cfg 53 h (some ([LLI a], h')) K = K (LLI (turnL a m n)) h' := by
  rw [ConW_any (f53_con T) rfl]; rfl

/-! ### negative -/
end Go.Proofs.Ytcdpkgmkckfonaa

set_option linter.unusedVariables false
set_option linter.unusedSimpArgs false
set_option maxRecDepth 10000
namespace Go.Proofs.Ytcdpkgmkckfonaa
open Go Go.Am

variable {h h' : Hp} {K : AV → Hp → Prop}

def idxF (p : Int → Bool) (l : List Int) : Int := match l.findIdx? p with | some i => i | none => -1
theorem idxF_ge (p : Int → Bool) (l : List Int) : decide (0 ≤ idxF p l) = l.any p := by
  unfold idxF
  cases hi : l.findIdx? p with
  | none =>
    have : l.any p = false := by
      rw [List.any_eq_false]
      exact fun x hx => by simpa using (List.findIdx?_eq_none_iff.1 hi) x hx
    rw [this]; rfl
  | some i =>
    obtain ⟨h1, h2, _⟩ := List.findIdx?_eq_some_iff_getElem.1 hi
    rw [List.any_eq_true.2 ⟨_, List.getElem_mem h1, h2⟩]
    exact decide_eq_true (Int.natCast_nonneg i)
theorem idxF_at {p : Int → Bool} {l : List Int} {i : Nat} (hi : i < l.length) (hp : p (nth l i) = true) (hn : ∀ k, k < i → p (nth l k) = false) : idxF p l = i := by
  have : l.findIdx? p = some i := by
    rw [List.findIdx?_eq_some_iff_getElem]
    refine ⟨hi, by rw [← nth_getElem hi]; exact hp, fun j hj => ?_⟩
    rw [← nth_getElem (Nat.lt_trans hj hi), hn j hj]; decide
  rw [idxF, this]
theorem idxF_no {p : Int → Bool} {l : List Int} (hn : ∀ k, k < l.length → p (nth l k) = false) : idxF p l = -1 := by
  have : l.findIdx? p = none := by
    rw [List.findIdx?_eq_none_iff]
    intro x hx
    obtain ⟨k, hk, rfl⟩ := List.getElem_of_mem hx
    rw [← nth_getElem hk]; exact hn k hk
  rw [idxF, this]
theorem all_nthI {α : Type} [Inhabited α] {p : α → Bool} {xs : List α} (h : ∀ i, i < xs.length → p (nth xs i) = true) : xs.all p = true := by
  refine List.all_eq_true.2 fun x hx => ?_
  obtain ⟨i, hi, rfl⟩ := List.getElem_of_mem hx
  rw [← nth_getElem hi]; exact h i hi
theorem all_no {α : Type} [Inhabited α] {p : α → Bool} {xs : List α} {i : Nat} (hi : i < xs.length) (h : p (nth xs i) = false) : xs.all p = false := by
  rw [List.all_eq_false]
  exact ⟨nth xs i, nth_mem hi, by rw [h]; decide⟩

theorem f76_con {g : FuncId} {caps : List AV} (hsh : cfg.shared g = false) (hse : ∀ h, sealArgs h caps = some (caps, h)) (p : Int → Bool) (l : List Int) (hl : l.length ≤ maxLen) (hp : ∀ x ∈ l, Con Try.prog cfg g (I x :: caps) (.bool (p x))) :
    Con Try.prog cfg 76 [LI l, .fn g caps] (I (idxF p l)) := by
  have ml : maxLen = 9223372036854775807 := by decide
  refine Con_intro Try.func76 rfl ok76 (Nat.le_of_ble_eq_true rfl) rfl ?_
  simp only [Try.f76, Option.getD_some, initSt2]
  simp (disch := first | (simp only [go_sem, gb0, eq_self]; done) | omega | (simp only [gl1, gl2]; omega)) only [go_sem, ↓reduceIte, Nat.reduceEqDiff, Nat.reduceAdd, Nat.reduceMul, Nat.reduceSub, Int.reduceToNat, Nat.reduceBEq]
  refine WP_for 8 l.length (fun j st h => st 0 = LI l ∧ st 1 = .fn g caps ∧ st 7 = I l.length ∧ ∀ k, k < j → p (nth l k) = false) (by simp (disch := first | (simp only [go_sem, gb0, eq_self]; done) | omega | (simp only [gl1, gl2]; omega)) only [go_sem, ↓reduceIte, Nat.reduceEqDiff, Nat.reduceAdd, Nat.reduceMul, Nat.reduceSub, Int.reduceToNat, Nat.reduceBEq]) ⟨by simp (disch := first | (simp only [go_sem, gb0, eq_self]; done) | omega | (simp only [gl1, gl2]; omega)) only [go_sem, ↓reduceIte, Nat.reduceEqDiff, Nat.reduceAdd, Nat.reduceMul, Nat.reduceSub, Int.reduceToNat, Nat.reduceBEq], by simp (disch := first | (simp only [go_sem, gb0, eq_self]; done) | omega | (simp only [gl1, gl2]; omega)) only [go_sem, ↓reduceIte, Nat.reduceEqDiff, Nat.reduceAdd, Nat.reduceMul, Nat.reduceSub, Int.reduceToNat, Nat.reduceBEq], by simp (disch := first | (simp only [go_sem, gb0, eq_self]; done) | omega | (simp only [gl1, gl2]; omega)) only [go_sem, ↓reduceIte, Nat.reduceEqDiff, Nat.reduceAdd, Nat.reduceMul, Nat.reduceSub, Int.reduceToNat, Nat.reduceBEq], fun k hk => by omega⟩ ?_
  rintro j st h hj s8 ⟨s0, s1, s7, hn⟩
  by_cases hlt : j < l.length
  case neg =>
    have : idxF p l = -1 := idxF_no fun k hk => hn k (by omega)
    rw [this]
    simp (disch := first | (simp only [go_sem, gb0, eq_self]; done) | omega | (simp only [gl1, gl2]; omega)) only [go_sem, ↓reduceIte, Nat.reduceEqDiff, Nat.reduceAdd, Nat.reduceMul, Nat.reduceSub, Int.reduceToNat, Nat.reduceBEq, s0, s1, s7, s8, hlt]
  have kg := fun h h' K => ConW_num (h := h) (h' := h') (K := K) (hp _ (nth_mem hlt)) rfl
  cases hb : p (nth l j) with
  | true =>
    rw [hb] at kg
    rw [idxF_at hlt hb hn]
    simp (disch := first | (simp only [go_sem, gb0, eq_self]; done) | omega | (simp only [gl1, gl2]; omega)) only [go_sem, ↓reduceIte, Nat.reduceEqDiff, Nat.reduceAdd, Nat.reduceMul, Nat.reduceSub, Int.reduceToNat, Nat.reduceBEq, s0, s1, s7, s8, hlt, hsh, hse, List.singleton_append, kg]
  | false =>
    rw [hb] at kg
    simp (disch := first | (simp only [go_sem, gb0, eq_self]; done) | omega | (simp only [gl1, gl2]; omega)) only [go_sem, ↓reduceIte, Nat.reduceEqDiff, Nat.reduceAdd, Nat.reduceMul, Nat.reduceSub, Int.reduceToNat, Nat.reduceBEq, s0, s1, s7, s8, hlt, hsh, hse, List.singleton_append, kg]
    rw [ForK_normal]
    exact ⟨hlt, by simp (disch := first | (simp only [go_sem, gb0, eq_self]; done) | omega | (simp only [gl1, gl2]; omega)) only [go_sem, ↓reduceIte, Nat.reduceEqDiff, Nat.reduceAdd, Nat.reduceMul, Nat.reduceSub, Int.reduceToNat, Nat.reduceBEq, s8], by simp (disch := first | (simp only [go_sem, gb0, eq_self]; done) | omega | (simp only [gl1, gl2]; omega)) only [go_sem, ↓reduceIte, Nat.reduceEqDiff, Nat.reduceAdd, Nat.reduceMul, Nat.reduceSub, Int.reduceToNat, Nat.reduceBEq, s0], by simp (disch := first | (simp only [go_sem, gb0, eq_self]; done) | omega | (simp only [gl1, gl2]; omega)) only [go_sem, ↓reduceIte, Nat.reduceEqDiff, Nat.reduceAdd, Nat.reduceMul, Nat.reduceSub, Int.reduceToNat, Nat.reduceBEq, s1], by simp (disch := first | (simp only [go_sem, gb0, eq_self]; done) | omega | (simp only [gl1, gl2]; omega)) only [go_sem, ↓reduceIte, Nat.reduceEqDiff, Nat.reduceAdd, Nat.reduceMul, Nat.reduceSub, Int.reduceToNat, Nat.reduceBEq, s7], fun k hk => by
      by_cases q : k = j
      · subst q; exact hb
      · exact hn k (by omega)⟩
theorem f66_con {g : FuncId} {caps : List AV} (hsh : cfg.shared g = false) (hse : ∀ h, sealArgs h caps = some (caps, h)) (hsa : ∀ h : Hp, sealA h (.fn g caps) = some (.fn g caps, h)) (p : Int → Bool) (l : List Int) (hl : l.length ≤ maxLen) (hp : ∀ x ∈ l, Con Try.prog cfg g (I x :: caps) (.bool (p x))) :
    Con Try.prog cfg 66 [LI l, .fn g caps] (.bool (l.any p)) := by
  have k76 := fun h h' K => ConW_num (h := h) (h' := h') (K := K) (f76_con hsh hse p l hl hp) rfl
  have he := idxF_ge p l
  refine Con_intro Try.func66 rfl ok66 (Nat.le_of_ble_eq_true rfl) rfl ?_
  simp only [Try.f66, Option.getD_some, initSt2]
  simp (disch := first | (simp only [go_sem, gb0, eq_self]; done) | omega | (simp only [gl1, gl2]; omega)) only [go_sem, ↓reduceIte, Nat.reduceEqDiff, Nat.reduceAdd, Nat.reduceMul, Nat.reduceSub, Int.reduceToNat, Nat.reduceBEq, k76, hsa, he]

theorem f67_con (x : Int) : Con Try.prog cfg 67 [I x] (.bool (!inB x (-20) 20)) := by
  refine Con_intro Try.func67 rfl ok67 (Nat.le_of_ble_eq_true rfl) rfl ?_
  simp only [Try.f67, Option.getD_some, initSt1]
  simp (disch := first | (simp only [go_sem, gb0, eq_self]; done) | omega | (simp only [gl1, gl2]; omega)) only [go_sem, ↓reduceIte, Nat.reduceEqDiff, Nat.reduceAdd, Nat.reduceMul, Nat.reduceSub, Int.reduceToNat, Nat.reduceBEq]
def rowB (n : Nat) (l : List Int) : Bool := decide (l.length = n) && l.all fun x => inB x (-20) 20
/-- A table of a game. -/
def tblB (a : List (List Int)) : Bool := (inB a.length 1 4 && inB (nth a 0).length 1 4) && a.all (rowB (nth a 0).length)
structure okLL (a : List (List Int)) : Prop where
  len : a.length ≤ maxLen
  row : ∀ l ∈ a, l.length ≤ maxLen
theorem any_not (l : List Int) : (l.any fun x => !inB x (-20) 20) = !l.all fun x => inB x (-20) 20 := by
  rw [List.not_all_eq_any_not]
theorem f40_con (a : List (List Int)) (ha : okLL a) : Con Try.prog cfg 40 [LLI a] (.bool (tblB a)) := by
  have ml : maxLen = 9223372036854775807 := by decide
  have hl := ha.len
  cases c1 : inB a.length 1 4 with
  | false =>
    have hr : tblB a = false := by rw [tblB, c1]; rfl
    rw [hr]
    refine Con_intro Try.func40 rfl ok40 (Nat.le_of_ble_eq_true rfl) rfl ?_
    simp only [Try.f40, Option.getD_some, initSt1]
    simp (disch := first | (simp only [go_sem, gb0, eq_self]; done) | omega | (simp only [gl1, gl2]; omega)) only [go_sem, ↓reduceIte, Nat.reduceEqDiff, Nat.reduceAdd, Nat.reduceMul, Nat.reduceSub, Int.reduceToNat, Nat.reduceBEq, c1]
  | true =>
  have c1' := c1
  simp only [inB, Bool.and_eq_true, decide_eq_true_eq] at c1'
  have h0 : 0 < a.length := by omega
  cases c2 : inB (nth a 0).length 1 4 with
  | false =>
    have hr : tblB a = false := by rw [tblB, c1, c2]; rfl
    rw [hr]
    refine Con_intro Try.func40 rfl ok40 (Nat.le_of_ble_eq_true rfl) rfl ?_
    simp only [Try.f40, Option.getD_some, initSt1]
    simp (disch := first | (simp only [go_sem, gb0, eq_self]; done) | omega | (simp only [gl1, gl2]; omega)) only [go_sem, ↓reduceIte, Nat.reduceEqDiff, Nat.reduceAdd, Nat.reduceMul, Nat.reduceSub, Int.reduceToNat, Nat.reduceBEq, c1, c2, h0]
  | true =>
  have hr : tblB a = a.all (rowB (nth a 0).length) := by rw [tblB, c1, c2]; rfl
  rw [hr]
  refine Con_intro Try.func40 rfl ok40 (Nat.le_of_ble_eq_true rfl) rfl ?_
  simp only [Try.f40, Option.getD_some, initSt1]
  simp (disch := first | (simp only [go_sem, gb0, eq_self]; done) | omega | (simp only [gl1, gl2]; omega)) only [go_sem, ↓reduceIte, Nat.reduceEqDiff, Nat.reduceAdd, Nat.reduceMul, Nat.reduceSub, Int.reduceToNat, Nat.reduceBEq, c1, c2, h0]
  refine WP_for 19 a.length (fun j st h => st 0 = LLI a ∧ st 17 = LLI a ∧ st 18 = I a.length ∧ ∀ k, k < j → rowB (nth a 0).length (nth a k) = true) (by simp (disch := first | (simp only [go_sem, gb0, eq_self]; done) | omega | (simp only [gl1, gl2]; omega)) only [go_sem, ↓reduceIte, Nat.reduceEqDiff, Nat.reduceAdd, Nat.reduceMul, Nat.reduceSub, Int.reduceToNat, Nat.reduceBEq]) ⟨by simp (disch := first | (simp only [go_sem, gb0, eq_self]; done) | omega | (simp only [gl1, gl2]; omega)) only [go_sem, ↓reduceIte, Nat.reduceEqDiff, Nat.reduceAdd, Nat.reduceMul, Nat.reduceSub, Int.reduceToNat, Nat.reduceBEq], by simp (disch := first | (simp only [go_sem, gb0, eq_self]; done) | omega | (simp only [gl1, gl2]; omega)) only [go_sem, ↓reduceIte, Nat.reduceEqDiff, Nat.reduceAdd, Nat.reduceMul, Nat.reduceSub, Int.reduceToNat, Nat.reduceBEq], by simp (disch := first | (simp only [go_sem, gb0, eq_self]; done) | omega | (simp only [gl1, gl2]; omega)) only [go_sem, ↓reduceIte, Nat.reduceEqDiff, Nat.reduceAdd, Nat.reduceMul, Nat.reduceSub, Int.reduceToNat, Nat.reduceBEq], fun k hk => by omega⟩ ?_
  rintro j st h hj s19 ⟨s0, s17, s18, hn⟩
  by_cases hlt : j < a.length
  case neg =>
    have : a.all (rowB (nth a 0).length) = true := all_nthI fun i hi => hn i (by omega)
    rw [this]
    simp (disch := first | (simp only [go_sem, gb0, eq_self]; done) | omega | (simp only [gl1, gl2]; omega)) only [go_sem, ↓reduceIte, Nat.reduceEqDiff, Nat.reduceAdd, Nat.reduceMul, Nat.reduceSub, Int.reduceToNat, Nat.reduceBEq, s0, s17, s18, s19, hlt]
  by_cases hlen : (nth a j).length = (nth a 0).length
  case neg =>
    have : a.all (rowB (nth a 0).length) = false := all_no hlt (by rw [rowB, decide_eq_false hlen]; rfl)
    rw [this]
    have hlen' : ¬ ((nth a j).length : Int) = (nth a 0).length := by omega
    simp (disch := first | (simp only [go_sem, gb0, eq_self]; done) | omega | (simp only [gl1, gl2]; omega)) only [go_sem, ↓reduceIte, Nat.reduceEqDiff, Nat.reduceAdd, Nat.reduceMul, Nat.reduceSub, Int.reduceToNat, Nat.reduceBEq, s0, s17, s18, s19, hlt, h0, hlen']
  have k66 := fun h h' K => ConW_num (h := h) (h' := h') (K := K) (f66_con (g := 67) (caps := []) (by kernel_rfl) (fun _ => rfl) (fun _ => rfl) _ (nth a j) (ha.row _ (nth_mem hlt)) fun x _ => f67_con x) rfl
  have hse : ∀ h : Hp, sealA h (.fn 67 []) = some (.fn 67 [], h) := fun _ => rfl
  rw [any_not] at k66
  cases hb : (nth a j).all fun x => inB x (-20) 20 with
  | false =>
    rw [hb] at k66
    have : a.all (rowB (nth a 0).length) = false := all_no hlt (by rw [rowB, hb, Bool.and_false])
    rw [this]
    simp (disch := first | (simp only [go_sem, gb0, eq_self]; done) | omega | (simp only [gl1, gl2]; omega)) only [go_sem, ↓reduceIte, Nat.reduceEqDiff, Nat.reduceAdd, Nat.reduceMul, Nat.reduceSub, Int.reduceToNat, Nat.reduceBEq, s0, s17, s18, s19, hlt, h0, hlen, k66, hse, eq_self, decide_true, Bool.not_true, Bool.not_false]
  | true =>
    rw [hb] at k66
    simp (disch := first | (simp only [go_sem, gb0, eq_self]; done) | omega | (simp only [gl1, gl2]; omega)) only [go_sem, ↓reduceIte, Nat.reduceEqDiff, Nat.reduceAdd, Nat.reduceMul, Nat.reduceSub, Int.reduceToNat, Nat.reduceBEq, s0, s17, s18, s19, hlt, h0, hlen, k66, hse, eq_self, decide_true, Bool.not_true, Bool.not_false]
    rw [ForK_normal]
    exact ⟨hlt, by simp (disch := first | (simp only [go_sem, gb0, eq_self]; done) | omega | (simp only [gl1, gl2]; omega)) only [go_sem, ↓reduceIte, Nat.reduceEqDiff, Nat.reduceAdd, Nat.reduceMul, Nat.reduceSub, Int.reduceToNat, Nat.reduceBEq, s19], by simp (disch := first | (simp only [go_sem, gb0, eq_self]; done) | omega | (simp only [gl1, gl2]; omega)) only [go_sem, ↓reduceIte, Nat.reduceEqDiff, Nat.reduceAdd, Nat.reduceMul, Nat.reduceSub, Int.reduceToNat, Nat.reduceBEq, s0], by simp (disch := first | (simp only [go_sem, gb0, eq_self]; done) | omega | (simp only [gl1, gl2]; omega)) only [go_sem, ↓reduceIte, Nat.reduceEqDiff, Nat.reduceAdd, Nat.reduceMul, Nat.reduceSub, Int.reduceToNat, Nat.reduceBEq, s17], by simp (disch := first | (simp only [go_sem, gb0, eq_self]; done) | omega | (simp only [gl1, gl2]; omega)) only [go_sem, ↓reduceIte, Nat.reduceEqDiff, Nat.reduceAdd, Nat.reduceMul, Nat.reduceSub, Int.reduceToNat, Nat.reduceBEq, s18], fun k hk => by
      by_cases q : k = j
      · subst q; rw [rowB, decide_eq_true hlen, hb]; rfl
      · exact hn k (by omega)⟩
@[go_sem] theorem k40 (a : List (List Int)) (ha : okLL a) : ConW Try.prog cfg 40 h (some ([LLI a], h')) K = K (.bool (tblB a)) h := ConW_num (f40_con a ha) rfl
theorem tblB_Tb {a : List (List Int)} (h : tblB a = true) : Tb a a.length (nth a 0).length := by
  simp only [tblB, inB, Bool.and_eq_true, decide_eq_true_eq, List.all_eq_true] at h
  obtain ⟨⟨h1, h2⟩, h3⟩ := h
  have hr : ∀ i, i < a.length → rowB (nth a 0).length (nth a i) = true := fun i hi => h3 _ (nth_mem hi)
  refine ⟨by omega, by omega, by omega, by omega, rfl, fun i hi => ?_, fun i hi j hj => ?_⟩
  · have := hr i hi
    simp only [rowB, Bool.and_eq_true, decide_eq_true_eq] at this
    exact this.1
  · have := hr i hi
    simp only [rowB, inB, Bool.and_eq_true, decide_eq_true_eq, List.all_eq_true] at this
    exact this.2 _ (nth_mem (by omega))
/-- Two tables of a game. -/
def gamB (a b : List (List Int)) : Bool := (tblB a && tblB b) && (decide (a.length = b.length) && decide ((nth a 0).length = (nth b 0).length))
theorem f52_con (a b : List (List Int)) (ha : okLL a) (hb : okLL b) : Con Try.prog cfg 52 [LLI a, LLI b] (.bool (gamB a b)) := by
  have ml : maxLen = 9223372036854775807 := by decide
  have ka := fun h h' K => k40 (h := h) (h' := h') (K := K) a ha
  have kb := fun h h' K => k40 (h := h) (h' := h') (K := K) b hb
  cases c1 : tblB a with
  | false =>
    have hr : gamB a b = false := by rw [gamB, c1]; rfl
    rw [hr]
    refine Con_intro Try.func52 rfl ok52 (Nat.le_of_ble_eq_true rfl) rfl ?_
    simp only [Try.f52, Option.getD_some, initSt2]
    simp (disch := first | (simp only [go_sem, gb0, eq_self]; done) | omega | (simp only [gl1, gl2]; omega)) only [go_sem, ↓reduceIte, Nat.reduceEqDiff, Nat.reduceAdd, Nat.reduceMul, Nat.reduceSub, Int.reduceToNat, Nat.reduceBEq, ka, c1]
  | true =>
  cases c2 : tblB b with
  | false =>
    have hr : gamB a b = false := by rw [gamB, c2, Bool.and_false, Bool.false_and]
    rw [hr]
    refine Con_intro Try.func52 rfl ok52 (Nat.le_of_ble_eq_true rfl) rfl ?_
    simp only [Try.f52, Option.getD_some, initSt2]
    simp (disch := first | (simp only [go_sem, gb0, eq_self]; done) | omega | (simp only [gl1, gl2]; omega)) only [go_sem, ↓reduceIte, Nat.reduceEqDiff, Nat.reduceAdd, Nat.reduceMul, Nat.reduceSub, Int.reduceToNat, Nat.reduceBEq, ka, kb, c1, c2]
  | true =>
  have Ta := tblB_Tb c1
  have T' := tblB_Tb c2
  have h0 : 0 < a.length := Ta.m1
  have h1 : 0 < b.length := T'.m1
  by_cases c3 : a.length = b.length
  case neg =>
    have hr : gamB a b = false := by rw [gamB, decide_eq_false c3, Bool.false_and, Bool.and_false]
    rw [hr]
    have c3' : ¬ (a.length : Int) = b.length := by omega
    refine Con_intro Try.func52 rfl ok52 (Nat.le_of_ble_eq_true rfl) rfl ?_
    simp only [Try.f52, Option.getD_some, initSt2]
    simp (disch := first | (simp only [go_sem, gb0, eq_self]; done) | omega | (simp only [gl1, gl2]; omega)) only [go_sem, ↓reduceIte, Nat.reduceEqDiff, Nat.reduceAdd, Nat.reduceMul, Nat.reduceSub, Int.reduceToNat, Nat.reduceBEq, ka, kb, c1, c2, c3']
  have c3' : (a.length : Int) = b.length := by omega
  have hr : gamB a b = decide ((nth a 0).length = (nth b 0).length) := by rw [gamB, c1, c2, decide_eq_true c3]; rfl
  have hd : decide (((nth a 0).length : Int) = ((nth b 0).length : Int)) = decide ((nth a 0).length = (nth b 0).length) := decide_eq_decide.2 (by omega)
  rw [hr, ← hd]
  refine Con_intro Try.func52 rfl ok52 (Nat.le_of_ble_eq_true rfl) rfl ?_
  simp only [Try.f52, Option.getD_some, initSt2]
  simp (disch := first | (simp only [go_sem, gb0, eq_self]; done) | omega | (simp only [gl1, gl2]; omega)) only [go_sem, ↓reduceIte, Nat.reduceEqDiff, Nat.reduceAdd, Nat.reduceMul, Nat.reduceSub, Int.reduceToNat, Nat.reduceBEq, ka, kb, c1, c2, c3', h0, h1, eq_self, decide_true]
@[go_sem] theorem k52 (a b : List (List Int)) (ha : okLL a) (hb : okLL b) : ConW Try.prog cfg 52 h (some ([LLI a, LLI b], h')) K = K (.bool (gamB a b)) h := ConW_num (f52_con a b ha hb) rfl
theorem gamB_Tb {a b : List (List Int)} (h : gamB a b = true) : Tb a a.length (nth a 0).length ∧ Tb b a.length (nth a 0).length := by
  simp only [gamB, Bool.and_eq_true, decide_eq_true_eq] at h
  obtain ⟨⟨h1, h2⟩, h3, h4⟩ := h
  refine ⟨tblB_Tb h1, ?_⟩
  rw [h3, h4]; exact tblB_Tb h2
end Go.Proofs.Ytcdpkgmkckfonaa

set_option linter.unusedVariables false
set_option linter.unusedSimpArgs false
set_option maxRecDepth 10000
namespace Go.Proofs.Ytcdpkgmkckfonaa
open Go Go.Am

variable {c : Cfg} {h h' : Hp} {K : AV → Hp → Prop} {ops : Array Oper} {lim : Option Nat} {st : St}

@[go_sem ↓ high] theorem W_b76z : StepW Try.prog c ops lim (.build 76 #[]) st h K = K (.agg [.nil, I 0]) h := by
  rw [W_build, show buildB Try.prog (Try.prog.underlying 76) (izero Try.prog 76) ((#[] : Array (Nat × Operand)).toList.map fun p => (p.1, ev st p.2)) = some (.agg [.nil, I 0]) by kernel_rfl]
  exact getW_some _
noncomputable def mk76n (x : AV) : Option AV := buildB Try.prog (Try.prog.underlying 76) (izero Try.prog 76) [(1, x)]
@[go_sem ↓ high] theorem W_b76n (a : Operand) : StepW Try.prog c ops lim (.build 76 #[(1, a)]) st h K = getW (mk76n (ev st a)) h K := by
  rw [W_build]; rfl
@[go_sem] theorem mk76n_I (x : Int) : mk76n (I x) = some (.agg [.nil, I x]) := by kernel_rfl
abbrev shA' (xs : List Int) (d : Int) : AV := .agg [LI xs, I d]

theorem seal_sh {h : Hp} {id n : Nat} {xs : List Int} {d : Int} (hb : h.bl id = some (.cells false true (xs.flatMap (e1 I)))) (hn : n = xs.length) : sealA h (.agg [.sl id 0 n 1, I d]) = some (shA' xs d, h.put id (some (.cells true true (xs.flatMap (e1 I))))) := by
  subst hn
  have hp : (AV.agg [.sl id 0 xs.length 1, I d]).isPure = false := rfl
  have s1 : sealV h (.sl id 0 xs.length 1) = some (LI xs, h.put id (some (.cells true true (xs.flatMap (e1 I))))) := by
    have : sealA h (.sl id 0 xs.length 1) = some (LI xs, h.put id (some (.cells true true (xs.flatMap (e1 I))))) := by rw [sealA_sl, hb, sealSl_own id _ false true xs rfl]
    exact this
  have s2 : ∀ g : Hp, sealV g (I d) = some (I d, g) := fun g => rfl
  have sc : sealCells h [.sl id 0 xs.length 1, I d] = some ([LI xs, I d], h.put id (some (.cells true true (xs.flatMap (e1 I))))) := by simp only [sealCells, s1, s2, Option.bind_some, Option.map_some]
  simp only [sealA, hp, sc, Option.map_some]
  rfl
theorem own_ne {α : Type} {f : α → List AV} {sz : Nat} {v : AV} {xs : List α} (o : Go.Am.Own f sz h v xs) {i : Nat} {fz : Bool} {flat : List AV} (hb : h.bl i = some (.cells fz false flat)) : ∀ id off n s, v = .sl id off n s → i ≠ id := by
  rintro id off n s rfl rfl
  rcases o with ⟨h1, _⟩ | ⟨id', e, _, hc⟩
  · cases h1
  · cases e
    rw [hc] at hb; cases hb
theorem own_put {α : Type} {f : α → List AV} {sz : Nat} {v : AV} {xs : List α} (o : Go.Am.Own f sz h v xs) {i : Nat} {fz : Bool} {flat : List AV} (hb : h.bl i = some (.cells fz false flat)) (b : Option Blk) : Go.Am.Own f sz (h.put i b) v xs := by
  have hne := own_ne o hb
  rcases o with o | ⟨id, e, hi, hc⟩
  · exact .inl o
  · refine .inr ⟨id, e, hi, ?_⟩
    rw [put_bl, if_neg (fun h => hne _ _ _ _ e h.symm)]; exact hc
/-- A fraction that may lie in a mix. -/
def okF (f : Int × Int) : Bool := decide (0 ≤ f.1) && (inB f.2 1 16777216 && (decide (f.1 ≤ f.2) && decide (gcdI f.1 f.2 = 1)))
def lcmI (d e : Int) : Int := d / gcdI d e * e
def denN (l : List (Int × Int)) : Nat → Int
  | 0 => 1
  | k + 1 => lcmI (denN l k) (nth l k).2
def stepB (l : List (Int × Int)) (i : Nat) : Bool := okF (nth l i) && decide (denN l (i + 1) ≤ 16777216)
def preB (l : List (Int × Int)) : Bool := (List.range l.length).all (stepB l)
def numF (l : List (Int × Int)) (D : Int) (i : Nat) : Int := (nth l i).1 * (D / (nth l i).2)
def numL (l : List (Int × Int)) : List Int := (List.range l.length).map (numF l (denN l l.length))
def denL (l : List (Int × Int)) : Int := denN l l.length
def sumF (l : List (Int × Int)) : Int := sumN (numF l (denL l)) l.length
def mixB (acts : Nat) (l : List (Int × Int)) : Bool := decide (l.length = acts) && preB l
def mixR (acts : Nat) (l : List (Int × Int)) : AV := if mixB acts l then .tup [shA' (numL l) (denL l), .bool (decide (sumF l = denL l))] else .tup [.agg [.nil, I 0], .bool false]
structure okFP (f : Int × Int) : Prop where
  n0 : 0 ≤ f.1
  d1 : 1 ≤ f.2
  d2 : f.2 ≤ 16777216
  le : f.1 ≤ f.2
  g1 : gcdI f.1 f.2 = 1
theorem okF_P {f : Int × Int} (h : okF f = true) : okFP f := by
  simp only [okF, inB, Bool.and_eq_true, decide_eq_true_eq] at h
  exact ⟨h.1, h.2.1.1, h.2.1.2, h.2.2.1, h.2.2.2⟩
theorem okFP_B {f : Int × Int} (h : okFP f) : okF f = true := by
  simp only [okF, inB, Bool.and_eq_true, decide_eq_true_eq]
  exact ⟨h.n0, ⟨h.d1, h.d2⟩, h.le, h.g1⟩
theorem lcm_pos {d e : Int} (hd : 1 ≤ d) (he : 1 ≤ e) : 1 ≤ lcmI d e := by
  have hg := gcdI_pos (a := d) (b := e) (by omega)
  have h1 : 0 < d / gcdI d e := Int.ediv_pos_of_pos_of_dvd (by omega) (by omega) (gcdI_dvd d e).1
  have := Int.mul_pos h1 (show 0 < e by omega)
  unfold lcmI; omega
theorem denN_pos {l : List (Int × Int)} : ∀ k, (∀ i, i < k → okF (nth l i) = true) → 1 ≤ denN l k
  | 0, _ => Int.le_refl 1
  | k + 1, h => lcm_pos (denN_pos k fun i hi => h i (by omega)) (okF_P (h k (by omega))).d1

theorem f77_con (l : List (Int × Int)) (hl : l.length ≤ maxLen) (acts : Nat) (h1 : 1 ≤ acts) (h4 : acts ≤ 4) : Con Try.prog cfg 77 [LP l, I acts] (mixR acts l) := by
  have ml : maxLen = 9223372036854775807 := by decide
  have hal : ∀ (g : Hp) (x y : Int), allocB g (some (.agg [I x, I y])) = some (.ptr g.nx 0, g.alloc (.cells false false [I x, I y])) := fun g x y => allocB_agg _ rfl
  have hal2 : ∀ (g : Hp) (y : Int), allocB g (some (.agg [.nil, I y])) = some (.ptr g.nx 0, g.alloc (.cells false false [.nil, I y])) := fun g y => allocB_agg _ rfl
  by_cases hc : l.length = acts
  case neg =>
    have hr : mixR acts l = .tup [.agg [.nil, I 0], .bool false] := by rw [mixR, mixB, decide_eq_false hc]; rfl
    have hc' : ¬ (l.length : Int) = acts := by omega
    rw [hr]
    refine Con_intro Try.func77 rfl ok77 (Nat.le_of_ble_eq_true rfl) rfl ?_
    simp only [Try.f77, Option.getD_some, initSt2]
    simp (disch := first | (simp only [go_sem, gb0, eq_self]; done) | omega | (simp only [gl1, gl2]; omega)) only [go_sem, ↓reduceIte, Nat.reduceEqDiff, Nat.reduceAdd, Nat.reduceMul, Nat.reduceSub, Int.reduceToNat, Nat.reduceBEq, hal2, hc']
  have hc' : (l.length : Int) = acts := by omega
  have hmb : mixB acts l = preB l := by rw [mixB, decide_eq_true hc]; rfl
  refine Con_intro Try.func77 rfl ok77 (Nat.le_of_ble_eq_true rfl) rfl ?_
  simp only [Try.f77, Option.getD_some, initSt2]
  simp (disch := first | (simp only [go_sem, gb0, eq_self]; done) | omega | (simp only [gl1, gl2]; omega)) only [go_sem, ↓reduceIte, Nat.reduceEqDiff, Nat.reduceAdd, Nat.reduceMul, Nat.reduceSub, Int.reduceToNat, Nat.reduceBEq, hal2, hc', eq_self, decide_true, Bool.not_true]
  refine WP_cut (fun st h => st 0 = LP l ∧ st 4 = .ptr 0 0 ∧ st 6 = I (denL l) ∧ 1 ≤ h.nx ∧ h.bl 0 = some (.cells false false [.nil, I 0]) ∧ preB l = true) ?_ ?_
  · refine WP_for 20 l.length (fun j st h => st 0 = LP l ∧ st 4 = .ptr 0 0 ∧ st 18 = LP l ∧ st 19 = I l.length ∧ st 6 = I (denN l j) ∧ 1 ≤ h.nx ∧ h.bl 0 = some (.cells false false [.nil, I 0]) ∧ ∀ k, k < j → stepB l k = true) (by simp (disch := first | (simp only [go_sem, gb0, eq_self]; done) | omega | (simp only [gl1, gl2]; omega)) only [go_sem, ↓reduceIte, Nat.reduceEqDiff, Nat.reduceAdd, Nat.reduceMul, Nat.reduceSub, Int.reduceToNat, Nat.reduceBEq]) ⟨by simp (disch := first | (simp only [go_sem, gb0, eq_self]; done) | omega | (simp only [gl1, gl2]; omega)) only [go_sem, ↓reduceIte, Nat.reduceEqDiff, Nat.reduceAdd, Nat.reduceMul, Nat.reduceSub, Int.reduceToNat, Nat.reduceBEq, hc'], by simp (disch := first | (simp only [go_sem, gb0, eq_self]; done) | omega | (simp only [gl1, gl2]; omega)) only [go_sem, ↓reduceIte, Nat.reduceEqDiff, Nat.reduceAdd, Nat.reduceMul, Nat.reduceSub, Int.reduceToNat, Nat.reduceBEq, hc'], by simp (disch := first | (simp only [go_sem, gb0, eq_self]; done) | omega | (simp only [gl1, gl2]; omega)) only [go_sem, ↓reduceIte, Nat.reduceEqDiff, Nat.reduceAdd, Nat.reduceMul, Nat.reduceSub, Int.reduceToNat, Nat.reduceBEq, hc'], by simp (disch := first | (simp only [go_sem, gb0, eq_self]; done) | omega | (simp only [gl1, gl2]; omega)) only [go_sem, ↓reduceIte, Nat.reduceEqDiff, Nat.reduceAdd, Nat.reduceMul, Nat.reduceSub, Int.reduceToNat, Nat.reduceBEq, hc'], by simp (disch := first | (simp only [go_sem, gb0, eq_self]; done) | omega | (simp only [gl1, gl2]; omega)) only [go_sem, ↓reduceIte, Nat.reduceEqDiff, Nat.reduceAdd, Nat.reduceMul, Nat.reduceSub, Int.reduceToNat, Nat.reduceBEq]; rfl, by simp (disch := first | (simp only [go_sem, gb0, eq_self]; done) | omega | (simp only [gl1, gl2]; omega)) only [go_sem, ↓reduceIte, Nat.reduceEqDiff, Nat.reduceAdd, Nat.reduceMul, Nat.reduceSub, Int.reduceToNat, Nat.reduceBEq, Nat.le_refl], by simp (disch := first | (simp only [go_sem, gb0, eq_self]; done) | omega | (simp only [gl1, gl2]; omega)) only [go_sem, ↓reduceIte, Nat.reduceEqDiff, Nat.reduceAdd, Nat.reduceMul, Nat.reduceSub, Int.reduceToNat, Nat.reduceBEq], fun k hk => by omega⟩ ?_
    rintro j st h hj s20 ⟨s0, s4, s18, s19, s6, hnx, b0, hpre⟩
    by_cases hlt : j < l.length
    case neg =>
      have hje : j = l.length := by omega
      subst hje
      simp (disch := first | (simp only [go_sem, gb0, eq_self]; done) | omega | (simp only [gl1, gl2]; omega)) only [go_sem, ↓reduceIte, Nat.reduceEqDiff, Nat.reduceAdd, Nat.reduceMul, Nat.reduceSub, Int.reduceToNat, Nat.reduceBEq, s0, s4, s18, s19, s6, s20, hlt]
      exact ⟨rfl, hnx, b0, List.all_eq_true.2 fun k hk => hpre k (List.mem_range.1 hk)⟩
    have hok : ∀ i, i < j → okF (nth l i) = true := fun i hi => by
      have := hpre i hi
      simp only [stepB, Bool.and_eq_true] at this
      exact this.1
    have hd0 := denN_pos j hok
    have hd1 : denN l j ≤ 16777216 := by
      cases j with
      | zero => exact show (1 : Int) ≤ 16777216 by decide
      | succ j =>
        have := hpre j (by omega)
        simp only [stepB, Bool.and_eq_true, decide_eq_true_eq] at this
        exact this.2
    have fin : stepB l j = false → preB l = false := fun h => by
      rw [preB, List.all_eq_false]
      exact ⟨j, List.mem_range.2 hlt, by rw [h]; decide⟩
    have hno : stepB l j = false → mixR acts l = .tup [.agg [.nil, I 0], .bool false] := fun h => by rw [mixR, hmb, fin h]; rfl
    have hst : denN l (j + 1) = denN l j / gcdI (denN l j) (nth l j).2 * (nth l j).2 := rfl
    have hsb : stepB l j = (okF (nth l j) && decide (denN l (j + 1) ≤ 16777216)) := rfl
    have n0 : ¬ 0 = h.nx := by omega
    have n0' : ¬ h.nx = 0 := by omega
    obtain ⟨f, hf⟩ : ∃ f, nth l j = f := ⟨_, rfl⟩
    rw [hf] at hst hsb
    by_cases c1 : f.1 < 0
    · have hr := hno (by rw [hsb, okF, decide_eq_false (show ¬ 0 ≤ f.1 by omega)]; rfl)
      rw [hr]
      simp (disch := first | (simp only [go_sem, gb0, eq_self]; done) | omega | (simp only [gl1, gl2]; omega)) only [go_sem, ↓reduceIte, Nat.reduceEqDiff, Nat.reduceAdd, Nat.reduceMul, Nat.reduceSub, Int.reduceToNat, Nat.reduceBEq, s0, s4, s18, s19, s6, s20, hlt, hf, hal, n0, n0', c1, b0]
    have c1' := decide_eq_true (show 0 ≤ f.1 by omega)
    cases c2 : inB f.2 1 16777216 with
    | false =>
      have hr := hno (by rw [hsb, okF, c2, c1']; rfl)
      rw [hr]
      simp (disch := first | (simp only [go_sem, gb0, eq_self]; done) | omega | (simp only [gl1, gl2]; omega)) only [go_sem, ↓reduceIte, Nat.reduceEqDiff, Nat.reduceAdd, Nat.reduceMul, Nat.reduceSub, Int.reduceToNat, Nat.reduceBEq, s0, s4, s18, s19, s6, s20, hlt, hf, hal, n0, n0', c1, c2, b0]
    | true =>
    have c2' := c2
    simp only [inB, Bool.and_eq_true, decide_eq_true_eq] at c2'
    by_cases c3 : f.2 < f.1
    · have hr := hno (by rw [hsb, okF, c2, c1', decide_eq_false (show ¬ f.1 ≤ f.2 by omega)]; rfl)
      rw [hr]
      simp (disch := first | (simp only [go_sem, gb0, eq_self]; done) | omega | (simp only [gl1, gl2]; omega)) only [go_sem, ↓reduceIte, Nat.reduceEqDiff, Nat.reduceAdd, Nat.reduceMul, Nat.reduceSub, Int.reduceToNat, Nat.reduceBEq, s0, s4, s18, s19, s6, s20, hlt, hf, hal, n0, n0', c1, c2, c3, b0]
    have c3' := decide_eq_true (show f.1 ≤ f.2 by omega)
    have kg := fun h h' K => k81 (h := h) (h' := h') (K := K) f.1 f.2 (by simp only [big]; omega) (by simp only [big]; omega)
    by_cases c4 : gcdI f.1 f.2 = 1
    case neg =>
      have hr := hno (by rw [hsb, okF, c2, c1', c3', decide_eq_false c4]; rfl)
      rw [hr]
      simp (disch := first | (simp only [go_sem, gb0, eq_self]; done) | omega | (simp only [gl1, gl2]; omega)) only [go_sem, ↓reduceIte, Nat.reduceEqDiff, Nat.reduceAdd, Nat.reduceMul, Nat.reduceSub, Int.reduceToNat, Nat.reduceBEq, s0, s4, s18, s19, s6, s20, hlt, hf, hal, n0, n0', c1, c2, c3, kg, c4, b0]
    have hokf : okF f = true := by rw [okF, c1', c2, c3', decide_eq_true c4]; rfl
    obtain ⟨D', hD'⟩ : ∃ D', denN l (j + 1) = D' := ⟨_, rfl⟩
    rw [hD'] at hst hsb
    generalize hD : denN l j = D at *
    have kg2 := fun h h' K => k81 (h := h) (h' := h') (K := K) D f.2 (by simp only [big]; omega) (by simp only [big]; omega)
    have hg := gcdI_pos (a := D) (b := f.2) (by omega)
    have t1 := tdiv_gcd_l D f.2
    have q0 : 0 ≤ D / gcdI D f.2 := Int.ediv_nonneg (by omega) (by omega)
    have q1 : D / gcdI D f.2 ≤ D := Int.ediv_le_self _ (by omega)
    have g0 : ¬ gcdI D f.2 = 0 := by omega
    have p0 : 0 ≤ D / gcdI D f.2 * f.2 := Int.mul_nonneg q0 (by omega)
    have p1 : D / gcdI D f.2 * f.2 ≤ 16777216 * 16777216 := Int.mul_le_mul (by omega) (by omega) (by omega) (by omega)
    rw [← hst] at p0 p1
    by_cases c5 : 16777216 < D'
    · have hr := hno (by rw [hsb, hokf, decide_eq_false (show ¬ D' ≤ 16777216 by omega)]; rfl)
      rw [hr]
      generalize D / gcdI D f.2 = q at *
      generalize gcdI D f.2 = g at *
      simp (disch := first | (simp only [go_sem, gb0, eq_self]; done) | omega | (simp only [gl1, gl2]; omega)) only [go_sem, ↓reduceIte, Nat.reduceEqDiff, Nat.reduceAdd, Nat.reduceMul, Nat.reduceSub, Int.reduceToNat, Nat.reduceBEq, s0, s4, s18, s19, s6, s20, hlt, hf, hal, n0, n0', c1, c2, c3, kg, c4, eq_self, decide_true, Bool.not_true, kg2, t1, g0, ← hst, c5, b0]
    have hsb' : stepB l j = true := by rw [hsb, hokf, decide_eq_true (show D' ≤ 16777216 by omega)]; rfl
    generalize D / gcdI D f.2 = q at *
    generalize gcdI D f.2 = g at *
    simp (disch := first | (simp only [go_sem, gb0, eq_self]; done) | omega | (simp only [gl1, gl2]; omega)) only [go_sem, ↓reduceIte, Nat.reduceEqDiff, Nat.reduceAdd, Nat.reduceMul, Nat.reduceSub, Int.reduceToNat, Nat.reduceBEq, s0, s4, s18, s19, s6, s20, hlt, hf, hal, n0, n0', c1, c2, c3, kg, c4, eq_self, decide_true, Bool.not_true, kg2, t1, g0, ← hst, c5, b0]
    rw [ForK_normal]
    refine ⟨hlt, by simp (disch := first | (simp only [go_sem, gb0, eq_self]; done) | omega | (simp only [gl1, gl2]; omega)) only [go_sem, ↓reduceIte, Nat.reduceEqDiff, Nat.reduceAdd, Nat.reduceMul, Nat.reduceSub, Int.reduceToNat, Nat.reduceBEq, s20], by simp (disch := first | (simp only [go_sem, gb0, eq_self]; done) | omega | (simp only [gl1, gl2]; omega)) only [go_sem, ↓reduceIte, Nat.reduceEqDiff, Nat.reduceAdd, Nat.reduceMul, Nat.reduceSub, Int.reduceToNat, Nat.reduceBEq, s0], by simp (disch := first | (simp only [go_sem, gb0, eq_self]; done) | omega | (simp only [gl1, gl2]; omega)) only [go_sem, ↓reduceIte, Nat.reduceEqDiff, Nat.reduceAdd, Nat.reduceMul, Nat.reduceSub, Int.reduceToNat, Nat.reduceBEq, s4], by simp (disch := first | (simp only [go_sem, gb0, eq_self]; done) | omega | (simp only [gl1, gl2]; omega)) only [go_sem, ↓reduceIte, Nat.reduceEqDiff, Nat.reduceAdd, Nat.reduceMul, Nat.reduceSub, Int.reduceToNat, Nat.reduceBEq, s18], by simp (disch := first | (simp only [go_sem, gb0, eq_self]; done) | omega | (simp only [gl1, gl2]; omega)) only [go_sem, ↓reduceIte, Nat.reduceEqDiff, Nat.reduceAdd, Nat.reduceMul, Nat.reduceSub, Int.reduceToNat, Nat.reduceBEq, s19], by simp (disch := first | (simp only [go_sem, gb0, eq_self]; done) | omega | (simp only [gl1, gl2]; omega)) only [go_sem, ↓reduceIte, Nat.reduceEqDiff, Nat.reduceAdd, Nat.reduceMul, Nat.reduceSub, Int.reduceToNat, Nat.reduceBEq, hD', hst], by simp (disch := first | (simp only [go_sem, gb0, eq_self]; done) | omega | (simp only [gl1, gl2]; omega)) only [go_sem, ↓reduceIte, Nat.reduceEqDiff, Nat.reduceAdd, Nat.reduceMul, Nat.reduceSub, Int.reduceToNat, Nat.reduceBEq]; omega, by simp (disch := first | (simp only [go_sem, gb0, eq_self]; done) | omega | (simp only [gl1, gl2]; omega)) only [go_sem, ↓reduceIte, Nat.reduceEqDiff, Nat.reduceAdd, Nat.reduceMul, Nat.reduceSub, Int.reduceToNat, Nat.reduceBEq, n0, n0', b0], fun k hk => ?_⟩
    by_cases q : k = j
    · subst q; exact hsb'
    · exact hpre k (by omega)
  rintro st h ⟨s0, s4, s6, hnx, b0, hpb⟩
  obtain ⟨P, hP⟩ : ∃ P, h.nx = P := ⟨_, rfl⟩
  rw [hP] at hnx
  have nP : ¬ 0 = P := by omega
  have hst : ∀ k, k < l.length → stepB l k = true := fun k hk => List.all_eq_true.1 hpb k (List.mem_range.2 hk)
  have hokf : ∀ k, k < l.length → okFP (nth l k) := fun k hk => by
    have := hst k hk
    simp only [stepB, Bool.and_eq_true] at this
    exact okF_P this.1
  have hD0 : 1 ≤ denL l := denN_pos _ fun i hi => okFP_B (hokf i hi)
  have hD1 : denL l ≤ 16777216 := by
    have := hst (l.length - 1) (by omega)
    simp only [stepB, Bool.and_eq_true, decide_eq_true_eq] at this
    have e : l.length - 1 + 1 = l.length := by omega
    rw [e] at this
    exact this.2
  have hr : mixR acts l = .tup [shA' (numL l) (denL l), .bool (decide (sumF l = denL l))] := by rw [mixR, hmb, hpb]; rfl
  have hnl : numL l = (List.range l.length).map (numF l (denL l)) := rfl
  have hsf : sumF l = sumN (numF l (denL l)) l.length := rfl
  have hnb : ∀ i, i < l.length → 0 ≤ numF l (denL l) i ∧ numF l (denL l) i ≤ 281474976710656 := fun i hi => by
    have f := hokf i hi
    have q0 : 0 ≤ denL l / (nth l i).2 := Int.ediv_nonneg (by omega) (by have := f.d1; omega)
    have q1 : denL l / (nth l i).2 ≤ denL l := Int.ediv_le_self _ (by omega)
    refine ⟨Int.mul_nonneg f.n0 q0, ?_⟩
    have := Int.mul_le_mul (show (nth l i).1 ≤ 16777216 by have := f.le; have := f.d2; omega) (show denL l / (nth l i).2 ≤ 16777216 by omega) q0 (by omega)
    show (nth l i).1 * (denL l / (nth l i).2) ≤ _
    omega
  have hnf : ∀ i, numF l (denL l) i = (nth l i).1 * (denL l / (nth l i).2) := fun i => rfl
  rw [hr, hnl, hsf]
  generalize denL l = D at *
  simp (disch := first | (simp only [go_sem, gb0, eq_self]; done) | omega | (simp only [gl1, gl2]; omega)) only [go_sem, ↓reduceIte, Nat.reduceEqDiff, Nat.reduceAdd, Nat.reduceMul, Nat.reduceSub, Int.reduceToNat, Nat.reduceBEq, s0, s4, s6, hal2, hP, b0, nP]
  refine WP_for 66 l.length (fun j st h => st 4 = .ptr 0 0 ∧ st 6 = I D ∧ st 9 = .ptr P 0 ∧ st 64 = LP l ∧ st 65 = I l.length ∧ st 10 = I (sumN (numF l D) j) ∧ P < h.nx ∧ h.bl 0 = some (.cells false false [.nil, I 0]) ∧ ∃ v, h.bl P = some (.cells false false [v, I D]) ∧ Go.Am.Own (e1 I) 1 h v ((List.range j).map (numF l D))) (by simp (disch := first | (simp only [go_sem, gb0, eq_self]; done) | omega | (simp only [gl1, gl2]; omega)) only [go_sem, ↓reduceIte, Nat.reduceEqDiff, Nat.reduceAdd, Nat.reduceMul, Nat.reduceSub, Int.reduceToNat, Nat.reduceBEq])
    ⟨by simp (disch := first | (simp only [go_sem, gb0, eq_self]; done) | omega | (simp only [gl1, gl2]; omega)) only [go_sem, ↓reduceIte, Nat.reduceEqDiff, Nat.reduceAdd, Nat.reduceMul, Nat.reduceSub, Int.reduceToNat, Nat.reduceBEq, s4], by simp (disch := first | (simp only [go_sem, gb0, eq_self]; done) | omega | (simp only [gl1, gl2]; omega)) only [go_sem, ↓reduceIte, Nat.reduceEqDiff, Nat.reduceAdd, Nat.reduceMul, Nat.reduceSub, Int.reduceToNat, Nat.reduceBEq, s6], by simp (disch := first | (simp only [go_sem, gb0, eq_self]; done) | omega | (simp only [gl1, gl2]; omega)) only [go_sem, ↓reduceIte, Nat.reduceEqDiff, Nat.reduceAdd, Nat.reduceMul, Nat.reduceSub, Int.reduceToNat, Nat.reduceBEq, hP], by simp (disch := first | (simp only [go_sem, gb0, eq_self]; done) | omega | (simp only [gl1, gl2]; omega)) only [go_sem, ↓reduceIte, Nat.reduceEqDiff, Nat.reduceAdd, Nat.reduceMul, Nat.reduceSub, Int.reduceToNat, Nat.reduceBEq, s0], by simp (disch := first | (simp only [go_sem, gb0, eq_self]; done) | omega | (simp only [gl1, gl2]; omega)) only [go_sem, ↓reduceIte, Nat.reduceEqDiff, Nat.reduceAdd, Nat.reduceMul, Nat.reduceSub, Int.reduceToNat, Nat.reduceBEq, s0], by simp (disch := first | (simp only [go_sem, gb0, eq_self]; done) | omega | (simp only [gl1, gl2]; omega)) only [go_sem, ↓reduceIte, Nat.reduceEqDiff, Nat.reduceAdd, Nat.reduceMul, Nat.reduceSub, Int.reduceToNat, Nat.reduceBEq]; rfl, by simp (disch := first | (simp only [go_sem, gb0, eq_self]; done) | omega | (simp only [gl1, gl2]; omega)) only [go_sem, ↓reduceIte, Nat.reduceEqDiff, Nat.reduceAdd, Nat.reduceMul, Nat.reduceSub, Int.reduceToNat, Nat.reduceBEq]; omega, by simp (disch := first | (simp only [go_sem, gb0, eq_self]; done) | omega | (simp only [gl1, gl2]; omega)) only [go_sem, ↓reduceIte, Nat.reduceEqDiff, Nat.reduceAdd, Nat.reduceMul, Nat.reduceSub, Int.reduceToNat, Nat.reduceBEq, hP, nP, b0], .nil, by simp (disch := first | (simp only [go_sem, gb0, eq_self]; done) | omega | (simp only [gl1, gl2]; omega)) only [go_sem, ↓reduceIte, Nat.reduceEqDiff, Nat.reduceAdd, Nat.reduceMul, Nat.reduceSub, Int.reduceToNat, Nat.reduceBEq, hP, nP], .inl ⟨rfl, rfl⟩⟩ ?_
  clear s0 s4 s6 b0 hP h
  rintro j st h hj s66 ⟨s4, s6, s9, s64, s65, s10, hlP, b0, v, bP, ov⟩
  by_cases hlt : j < l.length
  case neg =>
    have hje : j = l.length := by omega
    subst hje
    obtain ⟨id, hv, hid, hbid⟩ := ov.sl (by simp; omega)
    rw [List.length_map, List.length_range] at hv
    subst hv
    have hi0 : ¬ id = 0 := fun e => by subst e; rw [b0] at hbid; cases hbid
    have hi0' : ¬ 0 = id := fun e => hi0 e.symm
    have hsl := fun (H : Hp) (hb : H.bl id = some (.cells false true (((List.range l.length).map (numF l D)).flatMap (e1 I)))) => seal_sh (n := l.length) (d := D) hb (by simp)
    simp (disch := first | (simp only [go_sem, gb0, eq_self]; done) | omega | (simp only [gl1, gl2]; omega)) only [go_sem, ↓reduceIte, Nat.reduceEqDiff, Nat.reduceAdd, Nat.reduceMul, Nat.reduceSub, Int.reduceToNat, Nat.reduceBEq, s4, s6, s9, s64, s65, s66, s10, hlt, bP, b0, hi0, hi0', hbid]
    rw [hsl _ (by simp (disch := first | (simp only [go_sem, gb0, eq_self]; done) | omega | (simp only [gl1, gl2]; omega)) only [go_sem, ↓reduceIte, Nat.reduceEqDiff, Nat.reduceAdd, Nat.reduceMul, Nat.reduceSub, Int.reduceToNat, Nat.reduceBEq, hi0, hbid])]
    rfl
  have hf := hokf j hlt
  have hnj := hnb j hlt
  have hfj := hnf j
  have hsum := sumN_bounds (f := numF l D) (lo := 0) (hi := 281474976710656) (n := j) fun i hi => hnb i (by omega)
  have hss : sumN (numF l D) (j + 1) = sumN (numF l D) j + numF l D j := rfl
  have nh : ¬ P = h.nx := by omega
  have nh' : ¬ h.nx = P := by omega
  have nh0 : ¬ 0 = h.nx := by omega
  have hd1 := hf.d1
  have hd0 : ¬ (nth l j).2 = 0 := by omega
  have td : D.tdiv (nth l j).2 = D / (nth l j).2 := Int.tdiv_eq_ediv_of_nonneg (by omega)
  have q0 : 0 ≤ D / (nth l j).2 := Int.ediv_nonneg (by omega) (by omega)
  have q1 : D / (nth l j).2 ≤ D := Int.ediv_le_self _ (by omega)
  obtain ⟨G, hG⟩ : ∃ G : Hp, G = (h.alloc (.cells false false [I 0, I 0])).put h.nx (some (.cells false false [I (nth l j).1, I (nth l j).2])) := ⟨_, rfl⟩
  have hGn : G.nx = h.nx + 1 := by rw [hG]; simp (disch := first | (simp only [go_sem, gb0, eq_self]; done) | omega | (simp only [gl1, gl2]; omega)) only [go_sem, ↓reduceIte, Nat.reduceEqDiff, Nat.reduceAdd, Nat.reduceMul, Nat.reduceSub, Int.reduceToNat, Nat.reduceBEq]
  have hGb : ∀ id, id < h.nx → G.bl id = h.bl id := fun id hid => by rw [hG]; simp (disch := first | (simp only [go_sem, gb0, eq_self]; done) | omega | (simp only [gl1, gl2]; omega)) only [go_sem, ↓reduceIte, Nat.reduceEqDiff, Nat.reduceAdd, Nat.reduceMul, Nat.reduceSub, Int.reduceToNat, Nat.reduceBEq, Nat.ne_of_lt hid]
  have hGh : G.bl h.nx = some (.cells false false [I (nth l j).1, I (nth l j).2]) := by rw [hG]; simp (disch := first | (simp only [go_sem, gb0, eq_self]; done) | omega | (simp only [gl1, gl2]; omega)) only [go_sem, ↓reduceIte, Nat.reduceEqDiff, Nat.reduceAdd, Nat.reduceMul, Nat.reduceSub, Int.reduceToNat, Nat.reduceBEq]
  have ovG : Go.Am.Own (e1 I) 1 G v ((List.range j).map (numF l D)) := ov.mono (by omega) hGb
  have bPG : G.bl P = some (.cells false false [v, I D]) := by rw [hGb P hlP]; exact bP
  have b0G : G.bl 0 = some (.cells false false [.nil, I 0]) := by rw [hGb 0 (by omega)]; exact b0
  have hne := own_ne ovG bPG
  have hne0 := own_ne ovG b0G
  have hneh := own_ne ovG hGh
  have hbs := fun h : Hp => bsB_one (P := Try.prog) (h := h) 3 (I (numF l D j)) (I (numF l D j)) (I 0) h isz3 izero3 rfl rfl rfl rfl rfl rfl rfl
  have happ := app_one (P := Try.prog) ovG 3 8 (I 0) (numF l D j) isz3 ibytes3 izero3 rfl (by simp; omega) (by simp; omega)
  have aP : (appH G v (((List.range j).map (numF l D) ++ [numF l D j]).flatMap (e1 I))).bl P = some (.cells false false [v, I D]) := by rw [appH_bl _ _ _ _ (by omega) hne]; exact bPG
  have a0 : (appH G v (((List.range j).map (numF l D) ++ [numF l D j]).flatMap (e1 I))).bl 0 = some (.cells false false [.nil, I 0]) := by rw [appH_bl _ _ _ _ (by omega) hne0]; exact b0G
  have ah : (appH G v (((List.range j).map (numF l D) ++ [numF l D j]).flatMap (e1 I))).bl h.nx = some (.cells false false [I (nth l j).1, I (nth l j).2]) := by rw [appH_bl _ _ _ _ (by omega) hneh]; exact hGh
  have an : (appH G v (((List.range j).map (numF l D) ++ [numF l D j]).flatMap (e1 I))).nx = G.nx + 1 := appH_nx _ _ _
  have ao : Go.Am.Own (e1 I) 1 (appH G v (((List.range j).map (numF l D) ++ [numF l D j]).flatMap (e1 I))) (appV G ((List.range j).map (numF l D) ++ [numF l D j]).length 1) ((List.range (j + 1)).map (numF l D)) := by
    have := Own.app (f := e1 I) (sz := 1) G v ((List.range j).map (numF l D) ++ [numF l D j])
    rw [← rows_snoc]; exact this
  have av : appV G ((List.range j).map (numF l D) ++ [numF l D j]).length 1 = .sl G.nx 0 ((List.range j).map (numF l D) ++ [numF l D j]).length 1 := rfl
  have hcell : ∀ a b c d : Nat, (AV.sl a b c d).isCell = true := fun _ _ _ _ => rfl
  have hst1 : ∀ (g : Hp) (x : AV) (a b c d : Nat), storeC g P 0 1 (some (.cells false false [x, I D])) [.sl a b c d] = some (.skp, g.put P (some (.cells false false [.sl a b c d, I D]))) := fun g x a b c d => by simp [storeC, setL, AV.isCell]
  rw [av] at happ ao
  have hfj' : (nth l j).1 * (D / (nth l j).2) = numF l D j := hfj.symm
  generalize sumN (numF l D) j = S at *
  generalize D / (nth l j).2 = q at *
  generalize numF l D j = nf at *
  generalize appH G v (((List.range j).map (numF l D) ++ [nf]).flatMap (e1 I)) = A at *
  simp (disch := first | (simp only [go_sem, gb0, eq_self]; done) | omega | (simp only [gl1, gl2]; omega)) only [go_sem, ↓reduceIte, Nat.reduceEqDiff, Nat.reduceAdd, Nat.reduceMul, Nat.reduceSub, Int.reduceToNat, Nat.reduceBEq, s4, s6, s9, s64, s65, s66, s10, hlt, hal, ← hG, hGh, bPG, hd0, td, hfj', hbs, happ, hst1, aP, ah, nh, nh', nh0, hGn, hlP]
  rw [ForK_normal]
  refine ⟨hlt, by simp (disch := first | (simp only [go_sem, gb0, eq_self]; done) | omega | (simp only [gl1, gl2]; omega)) only [go_sem, ↓reduceIte, Nat.reduceEqDiff, Nat.reduceAdd, Nat.reduceMul, Nat.reduceSub, Int.reduceToNat, Nat.reduceBEq, s66], by simp (disch := first | (simp only [go_sem, gb0, eq_self]; done) | omega | (simp only [gl1, gl2]; omega)) only [go_sem, ↓reduceIte, Nat.reduceEqDiff, Nat.reduceAdd, Nat.reduceMul, Nat.reduceSub, Int.reduceToNat, Nat.reduceBEq, s4], by simp (disch := first | (simp only [go_sem, gb0, eq_self]; done) | omega | (simp only [gl1, gl2]; omega)) only [go_sem, ↓reduceIte, Nat.reduceEqDiff, Nat.reduceAdd, Nat.reduceMul, Nat.reduceSub, Int.reduceToNat, Nat.reduceBEq, s6], by simp (disch := first | (simp only [go_sem, gb0, eq_self]; done) | omega | (simp only [gl1, gl2]; omega)) only [go_sem, ↓reduceIte, Nat.reduceEqDiff, Nat.reduceAdd, Nat.reduceMul, Nat.reduceSub, Int.reduceToNat, Nat.reduceBEq, s9], by simp (disch := first | (simp only [go_sem, gb0, eq_self]; done) | omega | (simp only [gl1, gl2]; omega)) only [go_sem, ↓reduceIte, Nat.reduceEqDiff, Nat.reduceAdd, Nat.reduceMul, Nat.reduceSub, Int.reduceToNat, Nat.reduceBEq, s64], by simp (disch := first | (simp only [go_sem, gb0, eq_self]; done) | omega | (simp only [gl1, gl2]; omega)) only [go_sem, ↓reduceIte, Nat.reduceEqDiff, Nat.reduceAdd, Nat.reduceMul, Nat.reduceSub, Int.reduceToNat, Nat.reduceBEq, s65], by simp (disch := first | (simp only [go_sem, gb0, eq_self]; done) | omega | (simp only [gl1, gl2]; omega)) only [go_sem, ↓reduceIte, Nat.reduceEqDiff, Nat.reduceAdd, Nat.reduceMul, Nat.reduceSub, Int.reduceToNat, Nat.reduceBEq, s10, hss], by simp (disch := first | (simp only [go_sem, gb0, eq_self]; done) | omega | (simp only [gl1, gl2]; omega)) only [go_sem, ↓reduceIte, Nat.reduceEqDiff, Nat.reduceAdd, Nat.reduceMul, Nat.reduceSub, Int.reduceToNat, Nat.reduceBEq, an, hGn]; omega, by simp (disch := first | (simp only [go_sem, gb0, eq_self]; done) | omega | (simp only [gl1, gl2]; omega)) only [go_sem, ↓reduceIte, Nat.reduceEqDiff, Nat.reduceAdd, Nat.reduceMul, Nat.reduceSub, Int.reduceToNat, Nat.reduceBEq, nP, a0], _, by simp (disch := first | (simp only [go_sem, gb0, eq_self]; done) | omega | (simp only [gl1, gl2]; omega)) only [go_sem, ↓reduceIte, Nat.reduceEqDiff, Nat.reduceAdd, Nat.reduceMul, Nat.reduceSub, Int.reduceToNat, Nat.reduceBEq]; rfl, ?_⟩
  rw [hGn] at ao
  exact own_put ao aP _

theorem importR_mix (acts : Nat) (l : List (Int × Int)) : importR h (mixR acts l) = (mixR acts l, h) := by
  unfold mixR
  split <;> rfl
theorem k77 (l : List (Int × Int)) (hl : l.length ≤ maxLen) (acts : Nat) (h1 : 1 ≤ acts) (h4 : acts ≤ 4) : ConW Try.prog cfg 77 h (some ([LP l, I acts], h')) K = K (mixR acts l) h' := by
  rw [ConW_any (f77_con l hl acts h1 h4) (by unfold mixR; split <;> rfl) (by unfold mixR; split <;> rfl), importR_mix]
/-- The numbers of a list that may be a mix, and their denominator; else nothing. -/
def shV (acts : Nat) (l : List (Int × Int)) : AV := if mixB acts l then shA' (numL l) (denL l) else .agg [.nil, I 0]
def shB (acts : Nat) (l : List (Int × Int)) : Bool := mixB acts l && decide (sumF l = denL l)
theorem mixR_eq (acts : Nat) (l : List (Int × Int)) : mixR acts l = .tup [shV acts l, .bool (shB acts l)] := by
  unfold mixR shV shB
  split
  · rename_i h; rw [h]; rfl
  · rename_i h; rw [Bool.eq_false_iff.2 h]; rfl
end Go.Proofs.Ytcdpkgmkckfonaa

set_option linter.unusedVariables false
set_option linter.unusedSimpArgs false
set_option maxRecDepth 10000
namespace Go.Proofs.Ytcdpkgmkckfonaa
open Go Go.Am

variable {h h' : Hp} {K : AV → Hp → Prop}

/-- Numbers with a common denominator, for k acts. -/
structure Sh (xs : List Int) (d : Int) (k : Nat) : Prop where
  len : xs.length = k
  n0 : ∀ i, i < k → 0 ≤ nth xs i
  n1 : ∀ i, i < k → nth xs i ≤ 16777216
  d0 : 1 ≤ d
  d1 : d ≤ 16777216
def rowG (a : List (List Int)) (n : Nat) (ys : List Int) (i : Nat) : Int := sumN (fun j => nth (nth a i) j * nth ys j) n
def gainsL (a : List (List Int)) (m n : Nat) (ys : List Int) : List Int := (List.range m).map (rowG a n ys)
theorem gainsL_len (a : List (List Int)) (m n : Nat) (ys : List Int) : (gainsL a m n ys).length = m := by simp [gainsL]
theorem gainsL_nth {a : List (List Int)} {m n : Nat} {ys : List Int} {i : Nat} (hi : i < m) : nth (gainsL a m n ys) i = rowG a n ys i := nth_map_range _ _ _ hi
theorem rowG_pb {a : List (List Int)} {m n : Nat} (T : Tb a m n) {ys : List Int} {d : Int} (S : Sh ys d n) {i : Nat} (hi : i < m) : ∀ j, j ≤ n → -(j * 335544320) ≤ sumN (fun j => nth (nth a i) j * nth ys j) j ∧ sumN (fun j => nth (nth a i) j * nth ys j) j ≤ j * 335544320
  | 0, _ => by simp [sumN]
  | j + 1, hj => by
    have h1 := rowG_pb T S hi j (by omega)
    have h2 := T.bd i hi j (by omega)
    have h3 := S.n0 j (by omega)
    have h4 := S.n1 j (by omega)
    have h5 : nth (nth a i) j * nth ys j ≤ 20 * 16777216 := by
      have a1 : nth (nth a i) j * nth ys j ≤ 20 * nth ys j := Int.mul_le_mul_of_nonneg_right h2.2 h3
      omega
    have h6 : -(20 * 16777216) ≤ nth (nth a i) j * nth ys j := by
      have a1 : -20 * nth ys j ≤ nth (nth a i) j * nth ys j := Int.mul_le_mul_of_nonneg_right h2.1 h3
      omega
    have e : sumN (fun j => nth (nth a i) j * nth ys j) (j + 1) = sumN (fun j => nth (nth a i) j * nth ys j) j + nth (nth a i) j * nth ys j := rfl
    rw [e]; omega
theorem rowG_b {a : List (List Int)} {m n : Nat} (T : Tb a m n) {ys : List Int} {d : Int} (S : Sh ys d n) {i : Nat} (hi : i < m) : -1342177280 ≤ rowG a n ys i ∧ rowG a n ys i ≤ 1342177280 := by
  have := rowG_pb T S hi n (Nat.le_refl _)
  have := T.n4
  unfold rowG; omega

theorem f70_con {a : List (List Int)} {m n : Nat} (T : Tb a m n) {ys : List Int} {d : Int} (S : Sh ys d n) : Con Try.prog cfg 70 [LLI a, shA' ys d] (LI (gainsL a m n ys)) := by
  have hm1 := T.m1
  have hm4 := T.m4
  have hn1 := T.n1
  have hn4 := T.n4
  have hl := T.len
  have hal : ∀ (g : Hp) (y : Int), allocB g (some (.agg [LI ys, I y])) = some (.ptr g.nx 0, g.alloc (.cells false false [LI ys, I y])) := fun g y => allocB_agg _ rfl
  have hyl := S.len
  have hgl : gainsL a m n ys = (List.range m).map (rowG a n ys) := rfl
  rw [hgl]
  refine Con_intro Try.func70 rfl ok70 (Nat.le_of_ble_eq_true rfl) rfl ?_
  simp only [Try.f70, Option.getD_some, initSt2]
  simp (disch := first | (simp only [go_sem, gb0, eq_self]; done) | omega | (simp only [gl1, gl2]; omega)) only [go_sem, ↓reduceIte, Nat.reduceEqDiff, Nat.reduceAdd, Nat.reduceMul, Nat.reduceSub, Int.reduceToNat, Nat.reduceBEq, hal, hl]
  refine WP_for 13 m (fun i st h => st 3 = .ptr 0 0 ∧ st 11 = LLI a ∧ st 12 = I m ∧ 1 ≤ h.nx ∧ h.bl 0 = some (.cells false false [LI ys, I d]) ∧ ∃ v, st 5 = v ∧ Go.Am.Own (e1 I) 1 h v ((List.range i).map (rowG a n ys))) (by simp (disch := first | (simp only [go_sem, gb0, eq_self]; done) | omega | (simp only [gl1, gl2]; omega)) only [go_sem, ↓reduceIte, Nat.reduceEqDiff, Nat.reduceAdd, Nat.reduceMul, Nat.reduceSub, Int.reduceToNat, Nat.reduceBEq]) ⟨by simp (disch := first | (simp only [go_sem, gb0, eq_self]; done) | omega | (simp only [gl1, gl2]; omega)) only [go_sem, ↓reduceIte, Nat.reduceEqDiff, Nat.reduceAdd, Nat.reduceMul, Nat.reduceSub, Int.reduceToNat, Nat.reduceBEq, hl], by simp (disch := first | (simp only [go_sem, gb0, eq_self]; done) | omega | (simp only [gl1, gl2]; omega)) only [go_sem, ↓reduceIte, Nat.reduceEqDiff, Nat.reduceAdd, Nat.reduceMul, Nat.reduceSub, Int.reduceToNat, Nat.reduceBEq, hl], by simp (disch := first | (simp only [go_sem, gb0, eq_self]; done) | omega | (simp only [gl1, gl2]; omega)) only [go_sem, ↓reduceIte, Nat.reduceEqDiff, Nat.reduceAdd, Nat.reduceMul, Nat.reduceSub, Int.reduceToNat, Nat.reduceBEq, hl], by simp (disch := first | (simp only [go_sem, gb0, eq_self]; done) | omega | (simp only [gl1, gl2]; omega)) only [go_sem, ↓reduceIte, Nat.reduceEqDiff, Nat.reduceAdd, Nat.reduceMul, Nat.reduceSub, Int.reduceToNat, Nat.reduceBEq, Nat.le_refl], by simp (disch := first | (simp only [go_sem, gb0, eq_self]; done) | omega | (simp only [gl1, gl2]; omega)) only [go_sem, ↓reduceIte, Nat.reduceEqDiff, Nat.reduceAdd, Nat.reduceMul, Nat.reduceSub, Int.reduceToNat, Nat.reduceBEq], .nil, by simp (disch := first | (simp only [go_sem, gb0, eq_self]; done) | omega | (simp only [gl1, gl2]; omega)) only [go_sem, ↓reduceIte, Nat.reduceEqDiff, Nat.reduceAdd, Nat.reduceMul, Nat.reduceSub, Int.reduceToNat, Nat.reduceBEq], .inl ⟨rfl, rfl⟩⟩ ?_
  rintro i st h hi s13 ⟨s3, s11, s12, hnx, b0, v, s5, ov⟩
  by_cases hlt : i < m
  case neg =>
    have hke : i = m := by omega
    subst hke
    simp (disch := first | (simp only [go_sem, gb0, eq_self]; done) | omega | (simp only [gl1, gl2]; omega)) only [go_sem, ↓reduceIte, Nat.reduceEqDiff, Nat.reduceAdd, Nat.reduceMul, Nat.reduceSub, Int.reduceToNat, Nat.reduceBEq, s3, s11, s12, s5, s13, hlt]
    exact export_Own (f := e1 I) 31 ov
  have hri := T.row i hlt
  have hia : i < a.length := by omega
  simp (disch := first | (simp only [go_sem, gb0, eq_self]; done) | omega | (simp only [gl1, gl2]; omega)) only [go_sem, ↓reduceIte, Nat.reduceEqDiff, Nat.reduceAdd, Nat.reduceMul, Nat.reduceSub, Int.reduceToNat, Nat.reduceBEq, s3, s11, s12, s5, s13, hlt, hl, hri, hia]
  refine WP_for 19 n (fun j st h => st 3 = .ptr 0 0 ∧ st 11 = LLI a ∧ st 12 = I m ∧ st 13 = I i ∧ st 17 = LI (nth a i) ∧ st 18 = I n ∧ st 5 = v ∧ 1 ≤ h.nx ∧ h.bl 0 = some (.cells false false [LI ys, I d]) ∧ Go.Am.Own (e1 I) 1 h v ((List.range i).map (rowG a n ys)) ∧ st 8 = I (sumN (fun j => nth (nth a i) j * nth ys j) j)) (by simp (disch := first | (simp only [go_sem, gb0, eq_self]; done) | omega | (simp only [gl1, gl2]; omega)) only [go_sem, ↓reduceIte, Nat.reduceEqDiff, Nat.reduceAdd, Nat.reduceMul, Nat.reduceSub, Int.reduceToNat, Nat.reduceBEq])
    ⟨by simp (disch := first | (simp only [go_sem, gb0, eq_self]; done) | omega | (simp only [gl1, gl2]; omega)) only [go_sem, ↓reduceIte, Nat.reduceEqDiff, Nat.reduceAdd, Nat.reduceMul, Nat.reduceSub, Int.reduceToNat, Nat.reduceBEq, s3, s11, s12, s13, hri], by simp (disch := first | (simp only [go_sem, gb0, eq_self]; done) | omega | (simp only [gl1, gl2]; omega)) only [go_sem, ↓reduceIte, Nat.reduceEqDiff, Nat.reduceAdd, Nat.reduceMul, Nat.reduceSub, Int.reduceToNat, Nat.reduceBEq, s3, s11, s12, s13, hri], by simp (disch := first | (simp only [go_sem, gb0, eq_self]; done) | omega | (simp only [gl1, gl2]; omega)) only [go_sem, ↓reduceIte, Nat.reduceEqDiff, Nat.reduceAdd, Nat.reduceMul, Nat.reduceSub, Int.reduceToNat, Nat.reduceBEq, s3, s11, s12, s13, hri], by simp (disch := first | (simp only [go_sem, gb0, eq_self]; done) | omega | (simp only [gl1, gl2]; omega)) only [go_sem, ↓reduceIte, Nat.reduceEqDiff, Nat.reduceAdd, Nat.reduceMul, Nat.reduceSub, Int.reduceToNat, Nat.reduceBEq, s3, s11, s12, s13, hri], by simp (disch := first | (simp only [go_sem, gb0, eq_self]; done) | omega | (simp only [gl1, gl2]; omega)) only [go_sem, ↓reduceIte, Nat.reduceEqDiff, Nat.reduceAdd, Nat.reduceMul, Nat.reduceSub, Int.reduceToNat, Nat.reduceBEq, s3, s11, s12, s13, hri], by simp (disch := first | (simp only [go_sem, gb0, eq_self]; done) | omega | (simp only [gl1, gl2]; omega)) only [go_sem, ↓reduceIte, Nat.reduceEqDiff, Nat.reduceAdd, Nat.reduceMul, Nat.reduceSub, Int.reduceToNat, Nat.reduceBEq, s3, s11, s12, s13, hri], by simp (disch := first | (simp only [go_sem, gb0, eq_self]; done) | omega | (simp only [gl1, gl2]; omega)) only [go_sem, ↓reduceIte, Nat.reduceEqDiff, Nat.reduceAdd, Nat.reduceMul, Nat.reduceSub, Int.reduceToNat, Nat.reduceBEq, s5], hnx, b0, ov, by simp (disch := first | (simp only [go_sem, gb0, eq_self]; done) | omega | (simp only [gl1, gl2]; omega)) only [go_sem, ↓reduceIte, Nat.reduceEqDiff, Nat.reduceAdd, Nat.reduceMul, Nat.reduceSub, Int.reduceToNat, Nat.reduceBEq]; rfl⟩ ?_
  rintro j st h hj s19 ⟨s3, s11, s12, s13, s17, s18, s5, hnx, b0, ov, s8⟩
  by_cases hjl : j < n
  case neg =>
    have hje : j = n := by omega
    subst hje
    have hrb := rowG_b T S hlt
    have hre : sumN (fun k => nth (nth a i) k * nth ys k) j = rowG a j ys i := rfl
    rw [hre] at s8
    have hbs := fun h : Hp => bsB_one (P := Try.prog) (h := h) 3 (I (rowG a j ys i)) (I (rowG a j ys i)) (I 0) h isz3 izero3 rfl rfl rfl rfl rfl rfl rfl
    have happ := app_one (P := Try.prog) ov 3 8 (I 0) (rowG a j ys i) isz3 ibytes3 izero3 rfl (by simp; omega) (by simp; omega)
    have hne := own_ne ov b0
    simp (disch := first | (simp only [go_sem, gb0, eq_self]; done) | omega | (simp only [gl1, gl2]; omega)) only [go_sem, ↓reduceIte, Nat.reduceEqDiff, Nat.reduceAdd, Nat.reduceMul, Nat.reduceSub, Int.reduceToNat, Nat.reduceBEq, s3, s11, s12, s13, s17, s18, s5, s8, s19, hjl, hbs, happ]
    rw [ForK_normal]
    refine ⟨hlt, by simp (disch := first | (simp only [go_sem, gb0, eq_self]; done) | omega | (simp only [gl1, gl2]; omega)) only [go_sem, ↓reduceIte, Nat.reduceEqDiff, Nat.reduceAdd, Nat.reduceMul, Nat.reduceSub, Int.reduceToNat, Nat.reduceBEq, s13], by simp (disch := first | (simp only [go_sem, gb0, eq_self]; done) | omega | (simp only [gl1, gl2]; omega)) only [go_sem, ↓reduceIte, Nat.reduceEqDiff, Nat.reduceAdd, Nat.reduceMul, Nat.reduceSub, Int.reduceToNat, Nat.reduceBEq, s3], by simp (disch := first | (simp only [go_sem, gb0, eq_self]; done) | omega | (simp only [gl1, gl2]; omega)) only [go_sem, ↓reduceIte, Nat.reduceEqDiff, Nat.reduceAdd, Nat.reduceMul, Nat.reduceSub, Int.reduceToNat, Nat.reduceBEq, s11], by simp (disch := first | (simp only [go_sem, gb0, eq_self]; done) | omega | (simp only [gl1, gl2]; omega)) only [go_sem, ↓reduceIte, Nat.reduceEqDiff, Nat.reduceAdd, Nat.reduceMul, Nat.reduceSub, Int.reduceToNat, Nat.reduceBEq, s12], by rw [appH_nx]; omega, by rw [appH_bl _ _ _ _ (by omega) hne]; exact b0, _, by simp (disch := first | (simp only [go_sem, gb0, eq_self]; done) | omega | (simp only [gl1, gl2]; omega)) only [go_sem, ↓reduceIte, Nat.reduceEqDiff, Nat.reduceAdd, Nat.reduceMul, Nat.reduceSub, Int.reduceToNat, Nat.reduceBEq]; rfl, ?_⟩
    rw [← rows_snoc]; exact Own.app _ _ _
  have hjr : j < (nth a i).length := by omega
  have hjy : j < ys.length := by omega
  have hb := rowG_pb T S hlt j (by omega)
  have hb1 := rowG_pb T S hlt (j + 1) (by omega)
  have hst : sumN (fun k => nth (nth a i) k * nth ys k) (j + 1) = sumN (fun k => nth (nth a i) k * nth ys k) j + nth (nth a i) j * nth ys j := rfl
  have hpb : -335544320 * 2 ≤ nth (nth a i) j * nth ys j ∧ nth (nth a i) j * nth ys j ≤ 335544320 * 2 := by
    have h2 := T.bd i hlt j hjl
    have h3 := S.n0 j hjl
    have h4 := S.n1 j hjl
    have a1 : nth (nth a i) j * nth ys j ≤ 20 * nth ys j := Int.mul_le_mul_of_nonneg_right h2.2 h3
    have a2 : -20 * nth ys j ≤ nth (nth a i) j * nth ys j := Int.mul_le_mul_of_nonneg_right h2.1 h3
    omega
  generalize hS : sumN (fun k => nth (nth a i) k * nth ys k) j = S0 at *
  generalize hp : nth (nth a i) j * nth ys j = p at *
  simp (disch := first | (simp only [go_sem, gb0, eq_self]; done) | omega | (simp only [gl1, gl2]; omega)) only [go_sem, ↓reduceIte, Nat.reduceEqDiff, Nat.reduceAdd, Nat.reduceMul, Nat.reduceSub, Int.reduceToNat, Nat.reduceBEq, s3, s11, s12, s13, s17, s18, s5, s8, s19, hjl, hjr, hjy, hri, hyl, b0, hp]
  rw [ForK_normal]
  exact ⟨hjl, by simp (disch := first | (simp only [go_sem, gb0, eq_self]; done) | omega | (simp only [gl1, gl2]; omega)) only [go_sem, ↓reduceIte, Nat.reduceEqDiff, Nat.reduceAdd, Nat.reduceMul, Nat.reduceSub, Int.reduceToNat, Nat.reduceBEq, s19], by simp (disch := first | (simp only [go_sem, gb0, eq_self]; done) | omega | (simp only [gl1, gl2]; omega)) only [go_sem, ↓reduceIte, Nat.reduceEqDiff, Nat.reduceAdd, Nat.reduceMul, Nat.reduceSub, Int.reduceToNat, Nat.reduceBEq, s3], by simp (disch := first | (simp only [go_sem, gb0, eq_self]; done) | omega | (simp only [gl1, gl2]; omega)) only [go_sem, ↓reduceIte, Nat.reduceEqDiff, Nat.reduceAdd, Nat.reduceMul, Nat.reduceSub, Int.reduceToNat, Nat.reduceBEq, s11], by simp (disch := first | (simp only [go_sem, gb0, eq_self]; done) | omega | (simp only [gl1, gl2]; omega)) only [go_sem, ↓reduceIte, Nat.reduceEqDiff, Nat.reduceAdd, Nat.reduceMul, Nat.reduceSub, Int.reduceToNat, Nat.reduceBEq, s12], by simp (disch := first | (simp only [go_sem, gb0, eq_self]; done) | omega | (simp only [gl1, gl2]; omega)) only [go_sem, ↓reduceIte, Nat.reduceEqDiff, Nat.reduceAdd, Nat.reduceMul, Nat.reduceSub, Int.reduceToNat, Nat.reduceBEq, s13], by simp (disch := first | (simp only [go_sem, gb0, eq_self]; done) | omega | (simp only [gl1, gl2]; omega)) only [go_sem, ↓reduceIte, Nat.reduceEqDiff, Nat.reduceAdd, Nat.reduceMul, Nat.reduceSub, Int.reduceToNat, Nat.reduceBEq, s17], by simp (disch := first | (simp only [go_sem, gb0, eq_self]; done) | omega | (simp only [gl1, gl2]; omega)) only [go_sem, ↓reduceIte, Nat.reduceEqDiff, Nat.reduceAdd, Nat.reduceMul, Nat.reduceSub, Int.reduceToNat, Nat.reduceBEq, s18], by simp (disch := first | (simp only [go_sem, gb0, eq_self]; done) | omega | (simp only [gl1, gl2]; omega)) only [go_sem, ↓reduceIte, Nat.reduceEqDiff, Nat.reduceAdd, Nat.reduceMul, Nat.reduceSub, Int.reduceToNat, Nat.reduceBEq, s5], by simp (disch := first | (simp only [go_sem, gb0, eq_self]; done) | omega | (simp only [gl1, gl2]; omega)) only [go_sem, ↓reduceIte, Nat.reduceEqDiff, Nat.reduceAdd, Nat.reduceMul, Nat.reduceSub, Int.reduceToNat, Nat.reduceBEq, hnx], by simp (disch := first | (simp only [go_sem, gb0, eq_self]; done) | omega | (simp only [gl1, gl2]; omega)) only [go_sem, ↓reduceIte, Nat.reduceEqDiff, Nat.reduceAdd, Nat.reduceMul, Nat.reduceSub, Int.reduceToNat, Nat.reduceBEq, b0], ov, by simp (disch := first | (simp only [go_sem, gb0, eq_self]; done) | omega | (simp only [gl1, gl2]; omega)) only [go_sem, ↓reduceIte, Nat.reduceEqDiff, Nat.reduceAdd, Nat.reduceMul, Nat.reduceSub, Int.reduceToNat, Nat.reduceBEq, hst]⟩
theorem k70 {a : List (List Int)} {m n : Nat} (T : Tb a m n) {ys : List Int} {d : Int} (S : Sh ys d n) : ConW Try.prog cfg 70 h (some ([LLI a, shA' ys d], h')) K = K (LI (gainsL a m n ys)) h' := by
  rw [ConW_any (f70_con T S) rfl]; rfl

/-- The greatest of the first k + 1. -/
def maxN (l : List Int) : Nat → Int
  | 0 => nth l 0
  | k + 1 => max (maxN l k) (nth l (k + 1))
def maxL (l : List Int) : Int := maxN l (l.length - 1)
theorem maxN_ge (l : List Int) : ∀ k i, i ≤ k → nth l i ≤ maxN l k
  | 0, i, h => by rw [show i = 0 by omega]; exact Int.le_refl _
  | k + 1, i, h => by
    rw [maxN]
    by_cases e : i = k + 1
    · subst e; omega
    · have := maxN_ge l k i (by omega); omega
theorem maxN_ex (l : List Int) : ∀ k, ∃ i, i ≤ k ∧ maxN l k = nth l i
  | 0 => ⟨0, Nat.le_refl _, rfl⟩
  | k + 1 => by
    obtain ⟨i, h1, h2⟩ := maxN_ex l k
    rw [maxN]
    rcases Int.le_total (maxN l k) (nth l (k + 1)) with h | h
    · exact ⟨k + 1, Nat.le_refl _, by omega⟩
    · exact ⟨i, by omega, by omega⟩
theorem maxL_ge {l : List Int} {i : Nat} (hi : i < l.length) : nth l i ≤ maxL l := maxN_ge l _ i (by omega)
theorem maxL_ex {l : List Int} (hl : 0 < l.length) : ∃ i, i < l.length ∧ maxL l = nth l i := by
  obtain ⟨i, h1, h2⟩ := maxN_ex l (l.length - 1)
  exact ⟨i, by omega, h2⟩
theorem f54_con (l : List Int) (hl : l.length ≤ maxLen) (h0 : 0 < l.length) : Con Try.prog cfg 54 [LI l] (I (maxL l)) := by
  have ml : maxLen = 9223372036854775807 := by decide
  have h1 : ¬ (l.length : Int) < 1 := by omega
  refine Con_intro Try.func54 rfl ok54 (Nat.le_of_ble_eq_true rfl) rfl ?_
  simp only [Try.f54, Option.getD_some, initSt1]
  simp (disch := first | (simp only [go_sem, gb0, eq_self]; done) | omega | (simp only [gl1, gl2]; omega)) only [go_sem, ↓reduceIte, Nat.reduceEqDiff, Nat.reduceAdd, Nat.reduceMul, Nat.reduceSub, Int.reduceToNat, Nat.reduceBEq, h1, h0]
  refine WP_for1 4 (l.length - 1) (fun j st h => st 0 = LI l ∧ st 3 = I (maxN l j)) (by simp (disch := first | (simp only [go_sem, gb0, eq_self]; done) | omega | (simp only [gl1, gl2]; omega)) only [go_sem, ↓reduceIte, Nat.reduceEqDiff, Nat.reduceAdd, Nat.reduceMul, Nat.reduceSub, Int.reduceToNat, Nat.reduceBEq]) ⟨by simp (disch := first | (simp only [go_sem, gb0, eq_self]; done) | omega | (simp only [gl1, gl2]; omega)) only [go_sem, ↓reduceIte, Nat.reduceEqDiff, Nat.reduceAdd, Nat.reduceMul, Nat.reduceSub, Int.reduceToNat, Nat.reduceBEq], by simp (disch := first | (simp only [go_sem, gb0, eq_self]; done) | omega | (simp only [gl1, gl2]; omega)) only [go_sem, ↓reduceIte, Nat.reduceEqDiff, Nat.reduceAdd, Nat.reduceMul, Nat.reduceSub, Int.reduceToNat, Nat.reduceBEq]; rfl⟩ ?_
  rintro j st h hj s4 ⟨s0, s3⟩
  by_cases hlt : (j : Int) + 1 < l.length
  case neg =>
    have hje : j = l.length - 1 := by omega
    have : maxL l = maxN l j := by rw [maxL, hje]
    rw [this]
    simp (disch := first | (simp only [go_sem, gb0, eq_self]; done) | omega | (simp only [gl1, gl2]; omega)) only [go_sem, ↓reduceIte, Nat.reduceEqDiff, Nat.reduceAdd, Nat.reduceMul, Nat.reduceSub, Int.reduceToNat, Nat.reduceBEq, s0, s3, s4, hlt]
  have hlt' : j + 1 < l.length := by omega
  have hst : max (maxN l j) (nth l (j + 1)) = maxN l (j + 1) := rfl
  have htn : ((j : Int) + 1).toNat = j + 1 := by omega
  simp (disch := first | (simp only [go_sem, gb0, eq_self]; done) | omega | (simp only [gl1, gl2]; omega)) only [go_sem, ↓reduceIte, Nat.reduceEqDiff, Nat.reduceAdd, Nat.reduceMul, Nat.reduceSub, Int.reduceToNat, Nat.reduceBEq, s0, s3, s4, hlt, hlt', htn, hst]
  rw [For1K_normal]
  exact ⟨by omega, by simp (disch := first | (simp only [go_sem, gb0, eq_self]; done) | omega | (simp only [gl1, gl2]; omega)) only [go_sem, ↓reduceIte, Nat.reduceEqDiff, Nat.reduceAdd, Nat.reduceMul, Nat.reduceSub, Int.reduceToNat, Nat.reduceBEq, s4], by simp (disch := first | (simp only [go_sem, gb0, eq_self]; done) | omega | (simp only [gl1, gl2]; omega)) only [go_sem, ↓reduceIte, Nat.reduceEqDiff, Nat.reduceAdd, Nat.reduceMul, Nat.reduceSub, Int.reduceToNat, Nat.reduceBEq, s0], by simp (disch := first | (simp only [go_sem, gb0, eq_self]; done) | omega | (simp only [gl1, gl2]; omega)) only [go_sem, ↓reduceIte, Nat.reduceEqDiff, Nat.reduceAdd, Nat.reduceMul, Nat.reduceSub, Int.reduceToNat, Nat.reduceBEq]⟩
theorem k54 (l : List Int) (hl : l.length ≤ maxLen) (h0 : 0 < l.length) : ConW Try.prog cfg 54 h (some ([LI l], h')) K = K (I (maxL l)) h := ConW_num (f54_con l hl h0) rfl

/-! ### isBest -/
def bestB (a : List (List Int)) (m n : Nat) (xs ys : List Int) : Bool := (List.range m).all fun i => !(decide (0 < nth xs i) && decide (rowG a n ys i < maxL (gainsL a m n ys)))
theorem f64_con {a : List (List Int)} {m n : Nat} (T : Tb a m n) {xs ys : List Int} {d e : Int} (X : Sh xs d m) (Y : Sh ys e n) : Con Try.prog cfg 64 [LLI a, shA' xs d, shA' ys e] (.bool (bestB a m n xs ys)) := by
  have ml : maxLen = 9223372036854775807 := by decide
  have hm1 := T.m1
  have hm4 := T.m4
  have hal : ∀ (g : Hp) (ys : List Int) (y : Int), allocB g (some (.agg [LI ys, I y])) = some (.ptr g.nx 0, g.alloc (.cells false false [LI ys, I y])) := fun g ys y => allocB_agg _ rfl
  have kk70 := fun h h' K => k70 (h := h) (h' := h') (K := K) T Y
  have hgl := gainsL_len a m n ys
  have kk54 := fun h h' K => k54 (h := h) (h' := h') (K := K) (gainsL a m n ys) (by omega) (by omega)
  have hxl := X.len
  have hlen : ∀ l : List Int, l.length ≤ maxLen → True := fun _ _ => trivial
  refine Con_intro Try.func64 rfl ok64 (Nat.le_of_ble_eq_true rfl) rfl ?_
  simp only [Try.f64, Option.getD_some, initSt3]
  simp (disch := first | (simp only [go_sem, gb0, eq_self]; done) | omega | (simp only [gl1, gl2]; omega)) only [go_sem, ↓reduceIte, Nat.reduceEqDiff, Nat.reduceAdd, Nat.reduceMul, Nat.reduceSub, Int.reduceToNat, Nat.reduceBEq, hal, kk70, kk54, hxl]
  have hGn : ∀ i, i < m → nth (gainsL a m n ys) i = rowG a n ys i := fun i hi => gainsL_nth hi
  have hbest : bestB a m n xs ys = (List.range m).all fun i => !(decide (0 < nth xs i) && decide (nth (gainsL a m n ys) i < maxL (gainsL a m n ys))) := by
    rw [bestB, Bool.eq_iff_iff, List.all_eq_true, List.all_eq_true]
    constructor
    · intro h i hi; have := h i hi; rw [hGn i (List.mem_range.1 hi)]; exact this
    · intro h i hi; have := h i hi; rw [hGn i (List.mem_range.1 hi)] at this; exact this
  rw [hbest]
  generalize gainsL a m n ys = G at *
  generalize maxL G = M at *
  refine WP_for 19 m (fun i st h => st 7 = LI G ∧ st 8 = I M ∧ st 17 = LI xs ∧ st 18 = I m ∧ ∀ k, k < i → (!(decide (0 < nth xs k) && decide (nth G k < M))) = true) (by simp (disch := first | (simp only [go_sem, gb0, eq_self]; done) | omega | (simp only [gl1, gl2]; omega)) only [go_sem, ↓reduceIte, Nat.reduceEqDiff, Nat.reduceAdd, Nat.reduceMul, Nat.reduceSub, Int.reduceToNat, Nat.reduceBEq]) ⟨by simp (disch := first | (simp only [go_sem, gb0, eq_self]; done) | omega | (simp only [gl1, gl2]; omega)) only [go_sem, ↓reduceIte, Nat.reduceEqDiff, Nat.reduceAdd, Nat.reduceMul, Nat.reduceSub, Int.reduceToNat, Nat.reduceBEq], by simp (disch := first | (simp only [go_sem, gb0, eq_self]; done) | omega | (simp only [gl1, gl2]; omega)) only [go_sem, ↓reduceIte, Nat.reduceEqDiff, Nat.reduceAdd, Nat.reduceMul, Nat.reduceSub, Int.reduceToNat, Nat.reduceBEq], by simp (disch := first | (simp only [go_sem, gb0, eq_self]; done) | omega | (simp only [gl1, gl2]; omega)) only [go_sem, ↓reduceIte, Nat.reduceEqDiff, Nat.reduceAdd, Nat.reduceMul, Nat.reduceSub, Int.reduceToNat, Nat.reduceBEq], by simp (disch := first | (simp only [go_sem, gb0, eq_self]; done) | omega | (simp only [gl1, gl2]; omega)) only [go_sem, ↓reduceIte, Nat.reduceEqDiff, Nat.reduceAdd, Nat.reduceMul, Nat.reduceSub, Int.reduceToNat, Nat.reduceBEq, hxl], fun k hk => by omega⟩ ?_
  rintro i st h hi s19 ⟨s7, s8, s17, s18, hn⟩
  by_cases hlt : i < m
  case neg =>
    have : ((List.range m).all fun i => !(decide (0 < nth xs i) && decide (nth G i < M))) = true := List.all_eq_true.2 fun k hk => hn k (by have := List.mem_range.1 hk; omega)
    rw [this]
    simp (disch := first | (simp only [go_sem, gb0, eq_self]; done) | omega | (simp only [gl1, gl2]; omega)) only [go_sem, ↓reduceIte, Nat.reduceEqDiff, Nat.reduceAdd, Nat.reduceMul, Nat.reduceSub, Int.reduceToNat, Nat.reduceBEq, s7, s8, s17, s18, s19, hlt]
  have hix : i < xs.length := by omega
  have hig : i < G.length := by omega
  by_cases c1 : 0 < nth xs i
  case neg =>
    simp (disch := first | (simp only [go_sem, gb0, eq_self]; done) | omega | (simp only [gl1, gl2]; omega)) only [go_sem, ↓reduceIte, Nat.reduceEqDiff, Nat.reduceAdd, Nat.reduceMul, Nat.reduceSub, Int.reduceToNat, Nat.reduceBEq, s7, s8, s17, s18, s19, hlt, hxl, hgl, hix, hig, c1]
    rw [ForK_normal]
    exact ⟨hlt, by simp (disch := first | (simp only [go_sem, gb0, eq_self]; done) | omega | (simp only [gl1, gl2]; omega)) only [go_sem, ↓reduceIte, Nat.reduceEqDiff, Nat.reduceAdd, Nat.reduceMul, Nat.reduceSub, Int.reduceToNat, Nat.reduceBEq, s19], by simp (disch := first | (simp only [go_sem, gb0, eq_self]; done) | omega | (simp only [gl1, gl2]; omega)) only [go_sem, ↓reduceIte, Nat.reduceEqDiff, Nat.reduceAdd, Nat.reduceMul, Nat.reduceSub, Int.reduceToNat, Nat.reduceBEq, s7], by simp (disch := first | (simp only [go_sem, gb0, eq_self]; done) | omega | (simp only [gl1, gl2]; omega)) only [go_sem, ↓reduceIte, Nat.reduceEqDiff, Nat.reduceAdd, Nat.reduceMul, Nat.reduceSub, Int.reduceToNat, Nat.reduceBEq, s8], by simp (disch := first | (simp only [go_sem, gb0, eq_self]; done) | omega | (simp only [gl1, gl2]; omega)) only [go_sem, ↓reduceIte, Nat.reduceEqDiff, Nat.reduceAdd, Nat.reduceMul, Nat.reduceSub, Int.reduceToNat, Nat.reduceBEq, s17], by simp (disch := first | (simp only [go_sem, gb0, eq_self]; done) | omega | (simp only [gl1, gl2]; omega)) only [go_sem, ↓reduceIte, Nat.reduceEqDiff, Nat.reduceAdd, Nat.reduceMul, Nat.reduceSub, Int.reduceToNat, Nat.reduceBEq, s18], fun k hk => by
      by_cases q : k = i
      · subst q; rw [decide_eq_false c1]; rfl
      · exact hn k (by omega)⟩
  by_cases c2 : nth G i < M
  · have : ((List.range m).all fun i => !(decide (0 < nth xs i) && decide (nth G i < M))) = false := by
      rw [List.all_eq_false]
      exact ⟨i, List.mem_range.2 hlt, by rw [decide_eq_true c1, decide_eq_true c2]; decide⟩
    rw [this]
    simp (disch := first | (simp only [go_sem, gb0, eq_self]; done) | omega | (simp only [gl1, gl2]; omega)) only [go_sem, ↓reduceIte, Nat.reduceEqDiff, Nat.reduceAdd, Nat.reduceMul, Nat.reduceSub, Int.reduceToNat, Nat.reduceBEq, s7, s8, s17, s18, s19, hlt, hxl, hgl, hix, hig, c1, c2]
  · simp (disch := first | (simp only [go_sem, gb0, eq_self]; done) | omega | (simp only [gl1, gl2]; omega)) only [go_sem, ↓reduceIte, Nat.reduceEqDiff, Nat.reduceAdd, Nat.reduceMul, Nat.reduceSub, Int.reduceToNat, Nat.reduceBEq, s7, s8, s17, s18, s19, hlt, hxl, hgl, hix, hig, c1, c2]
    rw [ForK_normal]
    exact ⟨hlt, by simp (disch := first | (simp only [go_sem, gb0, eq_self]; done) | omega | (simp only [gl1, gl2]; omega)) only [go_sem, ↓reduceIte, Nat.reduceEqDiff, Nat.reduceAdd, Nat.reduceMul, Nat.reduceSub, Int.reduceToNat, Nat.reduceBEq, s19], by simp (disch := first | (simp only [go_sem, gb0, eq_self]; done) | omega | (simp only [gl1, gl2]; omega)) only [go_sem, ↓reduceIte, Nat.reduceEqDiff, Nat.reduceAdd, Nat.reduceMul, Nat.reduceSub, Int.reduceToNat, Nat.reduceBEq, s7], by simp (disch := first | (simp only [go_sem, gb0, eq_self]; done) | omega | (simp only [gl1, gl2]; omega)) only [go_sem, ↓reduceIte, Nat.reduceEqDiff, Nat.reduceAdd, Nat.reduceMul, Nat.reduceSub, Int.reduceToNat, Nat.reduceBEq, s8], by simp (disch := first | (simp only [go_sem, gb0, eq_self]; done) | omega | (simp only [gl1, gl2]; omega)) only [go_sem, ↓reduceIte, Nat.reduceEqDiff, Nat.reduceAdd, Nat.reduceMul, Nat.reduceSub, Int.reduceToNat, Nat.reduceBEq, s17], by simp (disch := first | (simp only [go_sem, gb0, eq_self]; done) | omega | (simp only [gl1, gl2]; omega)) only [go_sem, ↓reduceIte, Nat.reduceEqDiff, Nat.reduceAdd, Nat.reduceMul, Nat.reduceSub, Int.reduceToNat, Nat.reduceBEq, s18], fun k hk => by
      by_cases q : k = i
      · subst q; rw [decide_eq_false c2, Bool.and_false]; rfl
      · exact hn k (by omega)⟩
theorem k64 {a : List (List Int)} {m n : Nat} (T : Tb a m n) {xs ys : List Int} {d e : Int} (X : Sh xs d m) (Y : Sh ys e n) : ConW Try.prog cfg 64 h (some ([LLI a, shA' xs d, shA' ys e], h')) K = K (.bool (bestB a m n xs ys)) h := ConW_num (f64_con T X Y) rfl

/-! ### gain -/
def dotG (a : List (List Int)) (m n : Nat) (xs ys : List Int) : Int := sumN (fun i => rowG a n ys i * nth xs i) m
theorem dotG_pb {a : List (List Int)} {m n : Nat} (T : Tb a m n) {xs ys : List Int} {d e : Int} (X : Sh xs d m) (Y : Sh ys e n) : ∀ k, k ≤ m → -(k * 22517998136852480) ≤ sumN (fun i => rowG a n ys i * nth xs i) k ∧ sumN (fun i => rowG a n ys i * nth xs i) k ≤ k * 22517998136852480
  | 0, _ => by simp [sumN]
  | k + 1, hk => by
    have h1 := dotG_pb T X Y k (by omega)
    have h2 := rowG_b T Y (show k < m by omega)
    have h3 := X.n0 k (by omega)
    have h4 := X.n1 k (by omega)
    have a1 : rowG a n ys k * nth xs k ≤ 1342177280 * nth xs k := Int.mul_le_mul_of_nonneg_right h2.2 h3
    have a2 : -1342177280 * nth xs k ≤ rowG a n ys k * nth xs k := Int.mul_le_mul_of_nonneg_right h2.1 h3
    have e : sumN (fun i => rowG a n ys i * nth xs i) (k + 1) = sumN (fun i => rowG a n ys i * nth xs i) k + rowG a n ys k * nth xs k := rfl
    rw [e]; omega
theorem f43_con {a : List (List Int)} {m n : Nat} (T : Tb a m n) {xs ys : List Int} {d e : Int} (X : Sh xs d m) (Y : Sh ys e n) : Con Try.prog cfg 43 [LLI a, shA' xs d, shA' ys e] (FR (rdP (dotG a m n xs ys) (d * e))) := by
  have ml : maxLen = 9223372036854775807 := by decide
  have hm1 := T.m1
  have hm4 := T.m4
  have hal : ∀ (g : Hp) (ys : List Int) (y : Int), allocB g (some (.agg [LI ys, I y])) = some (.ptr g.nx 0, g.alloc (.cells false false [LI ys, I y])) := fun g ys y => allocB_agg _ rfl
  have hal2 : ∀ (g : Hp) (x y : Int), allocB g (some (.agg [I x, I y])) = some (.ptr g.nx 0, g.alloc (.cells false false [I x, I y])) := fun g x y => allocB_agg _ rfl
  have kk70 := fun h h' K => k70 (h := h) (h' := h') (K := K) T Y
  have hgl := gainsL_len a m n ys
  have hxl := X.len
  have hpb := dotG_pb T X Y
  have hrb := fun i (hi : i < m) => rowG_b T Y hi
  have hx0 := X.n0
  have hx1 := X.n1
  have hd0 := X.d0
  have hd1 := X.d1
  have he0 := Y.d0
  have he1 := Y.d1
  have hde0 : 0 < d * e := Int.mul_pos (by omega) (by omega)
  have hde1 : d * e ≤ 16777216 * 16777216 := Int.mul_le_mul hd1 he1 (by omega) (by omega)
  have hdot : dotG a m n xs ys = sumN (fun i => rowG a n ys i * nth xs i) m := rfl
  rw [hdot]
  have hGn : ∀ i, i < m → nth (gainsL a m n ys) i = rowG a n ys i := fun i hi => gainsL_nth hi
  refine Con_intro Try.func43 rfl ok43 (Nat.le_of_ble_eq_true rfl) rfl ?_
  simp only [Try.f43, Option.getD_some, initSt3]
  simp (disch := first | (simp only [go_sem, gb0, eq_self]; done) | omega | (simp only [gl1, gl2]; omega)) only [go_sem, ↓reduceIte, Nat.reduceEqDiff, Nat.reduceAdd, Nat.reduceMul, Nat.reduceSub, Int.reduceToNat, Nat.reduceBEq, hal, hal2, kk70, hgl]
  generalize gainsL a m n ys = G at *
  obtain ⟨gr, hgr⟩ : ∃ gr : Nat → Int, (fun i => rowG a n ys i) = gr := ⟨_, rfl⟩
  have hgr' : ∀ i, rowG a n ys i = gr i := fun i => congrFun hgr i
  simp only [hgr'] at hpb hrb hGn ⊢
  refine WP_for 14 m (fun i st h => st 4 = .ptr 0 0 ∧ st 5 = .ptr 1 0 ∧ st 6 = .ptr 2 0 ∧ st 12 = LI G ∧ st 13 = I m ∧ st 7 = I (sumN (fun i => gr i * nth xs i) i) ∧ h.bl 0 = some (.cells false false [LI xs, I d]) ∧ h.bl 1 = some (.cells false false [LI ys, I e]) ∧ h.bl 2 = some (.cells false false [I 0, I 0])) (by simp (disch := first | (simp only [go_sem, gb0, eq_self]; done) | omega | (simp only [gl1, gl2]; omega)) only [go_sem, ↓reduceIte, Nat.reduceEqDiff, Nat.reduceAdd, Nat.reduceMul, Nat.reduceSub, Int.reduceToNat, Nat.reduceBEq]) ⟨by simp (disch := first | (simp only [go_sem, gb0, eq_self]; done) | omega | (simp only [gl1, gl2]; omega)) only [go_sem, ↓reduceIte, Nat.reduceEqDiff, Nat.reduceAdd, Nat.reduceMul, Nat.reduceSub, Int.reduceToNat, Nat.reduceBEq, hgl], by simp (disch := first | (simp only [go_sem, gb0, eq_self]; done) | omega | (simp only [gl1, gl2]; omega)) only [go_sem, ↓reduceIte, Nat.reduceEqDiff, Nat.reduceAdd, Nat.reduceMul, Nat.reduceSub, Int.reduceToNat, Nat.reduceBEq, hgl], by simp (disch := first | (simp only [go_sem, gb0, eq_self]; done) | omega | (simp only [gl1, gl2]; omega)) only [go_sem, ↓reduceIte, Nat.reduceEqDiff, Nat.reduceAdd, Nat.reduceMul, Nat.reduceSub, Int.reduceToNat, Nat.reduceBEq, hgl], by simp (disch := first | (simp only [go_sem, gb0, eq_self]; done) | omega | (simp only [gl1, gl2]; omega)) only [go_sem, ↓reduceIte, Nat.reduceEqDiff, Nat.reduceAdd, Nat.reduceMul, Nat.reduceSub, Int.reduceToNat, Nat.reduceBEq, hgl], by simp (disch := first | (simp only [go_sem, gb0, eq_self]; done) | omega | (simp only [gl1, gl2]; omega)) only [go_sem, ↓reduceIte, Nat.reduceEqDiff, Nat.reduceAdd, Nat.reduceMul, Nat.reduceSub, Int.reduceToNat, Nat.reduceBEq, hgl], by simp (disch := first | (simp only [go_sem, gb0, eq_self]; done) | omega | (simp only [gl1, gl2]; omega)) only [go_sem, ↓reduceIte, Nat.reduceEqDiff, Nat.reduceAdd, Nat.reduceMul, Nat.reduceSub, Int.reduceToNat, Nat.reduceBEq]; rfl, by simp (disch := first | (simp only [go_sem, gb0, eq_self]; done) | omega | (simp only [gl1, gl2]; omega)) only [go_sem, ↓reduceIte, Nat.reduceEqDiff, Nat.reduceAdd, Nat.reduceMul, Nat.reduceSub, Int.reduceToNat, Nat.reduceBEq], by simp (disch := first | (simp only [go_sem, gb0, eq_self]; done) | omega | (simp only [gl1, gl2]; omega)) only [go_sem, ↓reduceIte, Nat.reduceEqDiff, Nat.reduceAdd, Nat.reduceMul, Nat.reduceSub, Int.reduceToNat, Nat.reduceBEq], by simp (disch := first | (simp only [go_sem, gb0, eq_self]; done) | omega | (simp only [gl1, gl2]; omega)) only [go_sem, ↓reduceIte, Nat.reduceEqDiff, Nat.reduceAdd, Nat.reduceMul, Nat.reduceSub, Int.reduceToNat, Nat.reduceBEq]⟩ ?_
  rintro i st h hi s14 ⟨s4, s5, s6, s12, s13, s7, b0, b1, b2⟩
  by_cases hlt : i < m
  case neg =>
    have hie : i = m := by omega
    subst hie
    have hb := hpb i (Nat.le_refl _)
    have k71' := fun h h' K => k71 (h := h) (h' := h') (K := K) (sumN (fun i => gr i * nth xs i) i) (d * e) (by simp only [big]; omega) (by simp only [big]; omega)
    generalize hP : d * e = P at *
    simp (disch := first | (simp only [go_sem, gb0, eq_self]; done) | omega | (simp only [gl1, gl2]; omega)) only [go_sem, ↓reduceIte, Nat.reduceEqDiff, Nat.reduceAdd, Nat.reduceMul, Nat.reduceSub, Int.reduceToNat, Nat.reduceBEq, s4, s5, s6, s12, s13, s7, s14, hlt, b0, b1, b2, hP, k71']
    rfl
  have hix : i < xs.length := by omega
  have hig : i < G.length := by omega
  have hb := hpb i (by omega)
  have hst : sumN (fun i => gr i * nth xs i) (i + 1) = sumN (fun i => gr i * nth xs i) i + gr i * nth xs i := rfl
  have hpp : -22517998136852480 ≤ gr i * nth xs i ∧ gr i * nth xs i ≤ 22517998136852480 := by
    have h2 := hrb i hlt
    have h3 := hx0 i hlt
    have h4 := hx1 i hlt
    have a1 : gr i * nth xs i ≤ 1342177280 * nth xs i := Int.mul_le_mul_of_nonneg_right h2.2 h3
    have a2 : -1342177280 * nth xs i ≤ gr i * nth xs i := Int.mul_le_mul_of_nonneg_right h2.1 h3
    omega
  have hGi := hGn i hlt
  generalize hS : sumN (fun i => gr i * nth xs i) i = S0 at *
  generalize hp : gr i * nth xs i = p at *
  simp (disch := first | (simp only [go_sem, gb0, eq_self]; done) | omega | (simp only [gl1, gl2]; omega)) only [go_sem, ↓reduceIte, Nat.reduceEqDiff, Nat.reduceAdd, Nat.reduceMul, Nat.reduceSub, Int.reduceToNat, Nat.reduceBEq, s4, s5, s6, s12, s13, s7, s14, hlt, b0, hix, hig, hxl, hgl, hGi, hp]
  rw [ForK_normal]
  exact ⟨hlt, by simp (disch := first | (simp only [go_sem, gb0, eq_self]; done) | omega | (simp only [gl1, gl2]; omega)) only [go_sem, ↓reduceIte, Nat.reduceEqDiff, Nat.reduceAdd, Nat.reduceMul, Nat.reduceSub, Int.reduceToNat, Nat.reduceBEq, s14], by simp (disch := first | (simp only [go_sem, gb0, eq_self]; done) | omega | (simp only [gl1, gl2]; omega)) only [go_sem, ↓reduceIte, Nat.reduceEqDiff, Nat.reduceAdd, Nat.reduceMul, Nat.reduceSub, Int.reduceToNat, Nat.reduceBEq, s4], by simp (disch := first | (simp only [go_sem, gb0, eq_self]; done) | omega | (simp only [gl1, gl2]; omega)) only [go_sem, ↓reduceIte, Nat.reduceEqDiff, Nat.reduceAdd, Nat.reduceMul, Nat.reduceSub, Int.reduceToNat, Nat.reduceBEq, s5], by simp (disch := first | (simp only [go_sem, gb0, eq_self]; done) | omega | (simp only [gl1, gl2]; omega)) only [go_sem, ↓reduceIte, Nat.reduceEqDiff, Nat.reduceAdd, Nat.reduceMul, Nat.reduceSub, Int.reduceToNat, Nat.reduceBEq, s6], by simp (disch := first | (simp only [go_sem, gb0, eq_self]; done) | omega | (simp only [gl1, gl2]; omega)) only [go_sem, ↓reduceIte, Nat.reduceEqDiff, Nat.reduceAdd, Nat.reduceMul, Nat.reduceSub, Int.reduceToNat, Nat.reduceBEq, s12], by simp (disch := first | (simp only [go_sem, gb0, eq_self]; done) | omega | (simp only [gl1, gl2]; omega)) only [go_sem, ↓reduceIte, Nat.reduceEqDiff, Nat.reduceAdd, Nat.reduceMul, Nat.reduceSub, Int.reduceToNat, Nat.reduceBEq, s13], by simp (disch := first | (simp only [go_sem, gb0, eq_self]; done) | omega | (simp only [gl1, gl2]; omega)) only [go_sem, ↓reduceIte, Nat.reduceEqDiff, Nat.reduceAdd, Nat.reduceMul, Nat.reduceSub, Int.reduceToNat, Nat.reduceBEq, hst], by simp (disch := first | (simp only [go_sem, gb0, eq_self]; done) | omega | (simp only [gl1, gl2]; omega)) only [go_sem, ↓reduceIte, Nat.reduceEqDiff, Nat.reduceAdd, Nat.reduceMul, Nat.reduceSub, Int.reduceToNat, Nat.reduceBEq, b0], by simp (disch := first | (simp only [go_sem, gb0, eq_self]; done) | omega | (simp only [gl1, gl2]; omega)) only [go_sem, ↓reduceIte, Nat.reduceEqDiff, Nat.reduceAdd, Nat.reduceMul, Nat.reduceSub, Int.reduceToNat, Nat.reduceBEq, b1], by simp (disch := first | (simp only [go_sem, gb0, eq_self]; done) | omega | (simp only [gl1, gl2]; omega)) only [go_sem, ↓reduceIte, Nat.reduceEqDiff, Nat.reduceAdd, Nat.reduceMul, Nat.reduceSub, Int.reduceToNat, Nat.reduceBEq, b2]⟩
theorem k43 {a : List (List Int)} {m n : Nat} (T : Tb a m n) {xs ys : List Int} {d e : Int} (X : Sh xs d m) (Y : Sh ys e n) : ConW Try.prog cfg 43 h (some ([LLI a, shA' xs d, shA' ys e], h')) K = K (FR (rdP (dotG a m n xs ys) (d * e))) h := ConW_num (f43_con T X Y) rfl
end Go.Proofs.Ytcdpkgmkckfonaa

set_option linter.unusedVariables false
set_option linter.unusedSimpArgs false
set_option maxRecDepth 10000
namespace Go.Proofs.Ytcdpkgmkckfonaa
open Go Go.Am

variable {h h' : Hp} {K : AV → Hp → Prop}

theorem shV_form (k : Nat) (l : List (Int × Int)) : ∃ v d, shV k l = .agg [v, I d] ∧ v.isPure = true ∧ v.isCell = true := by
  unfold shV
  split
  · exact ⟨_, _, rfl, pure_L _, rfl⟩
  · exact ⟨_, _, rfl, rfl, rfl⟩
theorem sumN_le_of {f : Nat → Int} (h0 : ∀ i, 0 ≤ f i) : ∀ n i, i < n → f i ≤ sumN f n
  | n + 1, i, hi => by
    have hs : sumN f (n + 1) = sumN f n + f n := rfl
    have hp : ∀ n, 0 ≤ sumN f n := fun n => by
      induction n with
      | zero => exact Int.le_refl 0
      | succ n ih => have e : sumN f (n + 1) = sumN f n + f n := rfl; have := h0 n; omega
    by_cases e : i = n
    · subst e; have := hp i; omega
    · have := sumN_le_of h0 n i (by omega); have := h0 n; omega
theorem numF_nonneg {f : Nat → Int} {n : Nat} (h0 : ∀ i, i < n → 0 ≤ f i) : ∀ i, i < n → f i ≤ sumN f n := by
  intro i hi
  let g : Nat → Int := fun k => if k < n then f k else 0
  have hg : ∀ k, 0 ≤ g k := fun k => by show 0 ≤ (if k < n then f k else 0); split; exact h0 k (by assumption); exact Int.le_refl 0
  have e1 : ∀ k, k ≤ n → sumN g k = sumN f k := fun k hk => by
    induction k with
    | zero => rfl
    | succ k ih =>
      have a1 : sumN g (k + 1) = sumN g k + g k := rfl
      have a2 : sumN f (k + 1) = sumN f k + f k := rfl
      have a3 : g k = f k := by show (if k < n then f k else 0) = f k; rw [if_pos (by omega)]
      rw [a1, a2, a3, ih (by omega)]
  have := sumN_le_of hg n i hi
  rw [e1 n (Nat.le_refl _)] at this
  have a3 : g i = f i := by show (if i < n then f i else 0) = f i; rw [if_pos hi]
  rw [a3] at this; exact this
theorem mixB_den {k : Nat} {l : List (Int × Int)} (h1 : 1 ≤ k) (h : mixB k l = true) : l.length = k ∧ (∀ i, i < k → okFP (nth l i)) ∧ 1 ≤ denL l ∧ denL l ≤ 16777216 := by
  simp only [mixB, preB, Bool.and_eq_true, decide_eq_true_eq, List.all_eq_true, List.mem_range] at h
  obtain ⟨hl, hp⟩ := h
  have hok : ∀ i, i < k → okFP (nth l i) := fun i hi => by
    have := hp i (by omega)
    simp only [stepB, Bool.and_eq_true] at this
    exact okF_P this.1
  refine ⟨hl, hok, denN_pos _ fun i hi => okFP_B (hok i (by omega)), ?_⟩
  have := hp (l.length - 1) (by omega)
  simp only [stepB, Bool.and_eq_true, decide_eq_true_eq] at this
  have e : l.length - 1 + 1 = l.length := by omega
  rw [e] at this
  exact this.2
theorem numL_nth {l : List (Int × Int)} {i : Nat} (hi : i < l.length) : nth (numL l) i = numF l (denL l) i := nth_map_range _ _ _ hi
theorem shB_Sh {k : Nat} {l : List (Int × Int)} (h1 : 1 ≤ k) (h : shB k l = true) : Sh (numL l) (denL l) k := by
  simp only [shB, Bool.and_eq_true, decide_eq_true_eq] at h
  obtain ⟨hm, hs⟩ := h
  obtain ⟨hl, hok, h2, h3⟩ := mixB_den h1 hm
  have hn0 : ∀ i, i < k → 0 ≤ numF l (denL l) i := fun i hi => Int.mul_nonneg (hok i hi).n0 (Int.ediv_nonneg (by omega) (by have := (hok i hi).d1; omega))
  refine ⟨by simp [numL, hl], fun i hi => ?_, fun i hi => ?_, h2, h3⟩
  · rw [numL_nth (by omega)]; exact hn0 i hi
  · rw [numL_nth (by omega)]
    have := numF_nonneg (n := k) hn0 i hi
    rw [sumF, hl] at hs
    omega
theorem shB_V {k : Nat} {l : List (Int × Int)} (h : shB k l = true) : shV k l = shA' (numL l) (denL l) := by
  simp only [shB, Bool.and_eq_true] at h
  rw [shV, if_pos h.1]

def mxR (m n : Nat) (x y : List (Int × Int)) : AV := .tup [shV m x, shV n y, .bool (shB m x && shB n y)]
theorem f63_con {a : List (List Int)} {m n : Nat} (T : Tb a m n) (x y : List (Int × Int)) (hx : x.length ≤ maxLen) (hy : y.length ≤ maxLen) : Con Try.prog cfg 63 [LLI a, LP x, LP y] (mxR m n x y) := by
  have hm1 := T.m1
  have hm4 := T.m4
  have hn1 := T.n1
  have hn4 := T.n4
  have hl := T.len
  have hr0 := T.row 0 (by omega)
  have h0 : 0 < a.length := by omega
  have hal : ∀ (g : Hp) (v : AV) (y : Int), v.isCell = true → allocB g (some (.agg [v, I y])) = some (.ptr g.nx 0, g.alloc (.cells false false [v, I y])) := fun g v y hv => allocB_agg _ (by simp [hv]; rfl)
  have hal0 := fun g y => hal g .nil y rfl
  have kx := fun h h' K => k77 (h := h) (h' := h') (K := K) x hx m hm1 hm4
  have ky := fun h h' K => k77 (h := h) (h' := h') (K := K) y hy n hn1 hn4
  obtain ⟨v, d, hv, hvp, hvc⟩ := shV_form m x
  obtain ⟨w, e, hw, hwp, hwc⟩ := shV_form n y
  rw [mixR_eq, hv] at kx
  rw [mixR_eq, hw] at ky
  rw [mxR, hv, hw]
  have hst : ∀ (g : Hp) (id : Nat) (a b : AV) (v : AV) (d : Int), v.isCell = true → storeC g id 0 2 (some (.cells false false [a, b])) [v, I d] = some (.skp, g.put id (some (.cells false false [v, I d]))) := fun g id a b v d hv => by simp [storeC, setL, hv]; rfl
  have hsv := fun g id a b => hst g id a b v d hvc
  have hsw := fun g id a b => hst g id a b w e hwc
  generalize shB m x = p at *
  generalize shB n y = q at *
  refine Con_intro Try.func63 rfl ok63 (Nat.le_of_ble_eq_true rfl) rfl ?_
  simp only [Try.f63, Option.getD_some, initSt3]
  have fin : ∀ (H : Hp) (b : Bool), ex3 (sealA H (.agg [v, I d])) (.agg [w, I e]) (.bool b) = some (.tup [.agg [v, I d], .agg [w, I e], .bool b]) := by
    intro H b
    have s1 : ∀ (v : AV) (d : Int), v.isPure = true → sealA H (.agg [v, I d]) = some (.agg [v, I d], H) := fun v d hp => sealA_agg _ (by simp only [AV.pureL, hp, Bool.and_true]; rfl)
    rw [ex3, s1 v d hvp, Option.bind_some, ex2b, s1 w e hwp]
    rfl
  simp (disch := first | (simp only [go_sem, gb0, eq_self]; done) | omega | (simp only [gl1, gl2]; omega)) only [go_sem, ↓reduceIte, Nat.reduceEqDiff, Nat.reduceAdd, Nat.reduceMul, Nat.reduceSub, Int.reduceToNat, Nat.reduceBEq, hal0, ↓stopY 1 false]
  refine WPy_go (fun st h => st 0 = LLI a ∧ st 1 = LP x ∧ st 2 = LP y ∧ st 6 = .ptr 0 0 ∧ st 7 = .ptr 1 0 ∧ h.nx = 2 ∧ h.bl 0 = some (.cells false false [.nil, I 0]) ∧ h.bl 1 = some (.cells false false [.nil, I 0])) ⟨by simp (disch := first | (simp only [go_sem, gb0, eq_self]; done) | omega | (simp only [gl1, gl2]; omega)) only [go_sem, ↓reduceIte, Nat.reduceEqDiff, Nat.reduceAdd, Nat.reduceMul, Nat.reduceSub, Int.reduceToNat, Nat.reduceBEq], by simp (disch := first | (simp only [go_sem, gb0, eq_self]; done) | omega | (simp only [gl1, gl2]; omega)) only [go_sem, ↓reduceIte, Nat.reduceEqDiff, Nat.reduceAdd, Nat.reduceMul, Nat.reduceSub, Int.reduceToNat, Nat.reduceBEq], by simp (disch := first | (simp only [go_sem, gb0, eq_self]; done) | omega | (simp only [gl1, gl2]; omega)) only [go_sem, ↓reduceIte, Nat.reduceEqDiff, Nat.reduceAdd, Nat.reduceMul, Nat.reduceSub, Int.reduceToNat, Nat.reduceBEq], by simp (disch := first | (simp only [go_sem, gb0, eq_self]; done) | omega | (simp only [gl1, gl2]; omega)) only [go_sem, ↓reduceIte, Nat.reduceEqDiff, Nat.reduceAdd, Nat.reduceMul, Nat.reduceSub, Int.reduceToNat, Nat.reduceBEq], by simp (disch := first | (simp only [go_sem, gb0, eq_self]; done) | omega | (simp only [gl1, gl2]; omega)) only [go_sem, ↓reduceIte, Nat.reduceEqDiff, Nat.reduceAdd, Nat.reduceMul, Nat.reduceSub, Int.reduceToNat, Nat.reduceBEq], by simp (disch := first | (simp only [go_sem, gb0, eq_self]; done) | omega | (simp only [gl1, gl2]; omega)) only [go_sem, ↓reduceIte, Nat.reduceEqDiff, Nat.reduceAdd, Nat.reduceMul, Nat.reduceSub, Int.reduceToNat, Nat.reduceBEq], by simp (disch := first | (simp only [go_sem, gb0, eq_self]; done) | omega | (simp only [gl1, gl2]; omega)) only [go_sem, ↓reduceIte, Nat.reduceEqDiff, Nat.reduceAdd, Nat.reduceMul, Nat.reduceSub, Int.reduceToNat, Nat.reduceBEq], by simp (disch := first | (simp only [go_sem, gb0, eq_self]; done) | omega | (simp only [gl1, gl2]; omega)) only [go_sem, ↓reduceIte, Nat.reduceEqDiff, Nat.reduceAdd, Nat.reduceMul, Nat.reduceSub, Int.reduceToNat, Nat.reduceBEq]⟩ ?_
  rintro st h ⟨s0, s1, s2, s6, s7, hnx, b0, b1⟩
  simp (disch := first | (simp only [go_sem, gb0, eq_self]; done) | omega | (simp only [gl1, gl2]; omega)) only [go_sem, ↓reduceIte, Nat.reduceEqDiff, Nat.reduceAdd, Nat.reduceMul, Nat.reduceSub, Int.reduceToNat, Nat.reduceBEq, s0, s1, s2, s6, s7, hnx, b0, b1, hal0, hl, kx, hsv, ↓stopY 2 false]
  refine WPy_go (fun st h => st 0 = LLI a ∧ st 2 = LP y ∧ st 6 = .ptr 0 0 ∧ st 7 = .ptr 1 0 ∧ st 9 = .ptr 2 0 ∧ st 10 = .bool p ∧ h.nx = 3 ∧ h.bl 0 = some (.cells false false [.nil, I 0]) ∧ h.bl 1 = some (.cells false false [.nil, I 0]) ∧ h.bl 2 = some (.cells false false [v, I d])) ⟨by simp (disch := first | (simp only [go_sem, gb0, eq_self]; done) | omega | (simp only [gl1, gl2]; omega)) only [go_sem, ↓reduceIte, Nat.reduceEqDiff, Nat.reduceAdd, Nat.reduceMul, Nat.reduceSub, Int.reduceToNat, Nat.reduceBEq, s0, s1, s2, s6, s7, hnx], by simp (disch := first | (simp only [go_sem, gb0, eq_self]; done) | omega | (simp only [gl1, gl2]; omega)) only [go_sem, ↓reduceIte, Nat.reduceEqDiff, Nat.reduceAdd, Nat.reduceMul, Nat.reduceSub, Int.reduceToNat, Nat.reduceBEq, s0, s1, s2, s6, s7, hnx], by simp (disch := first | (simp only [go_sem, gb0, eq_self]; done) | omega | (simp only [gl1, gl2]; omega)) only [go_sem, ↓reduceIte, Nat.reduceEqDiff, Nat.reduceAdd, Nat.reduceMul, Nat.reduceSub, Int.reduceToNat, Nat.reduceBEq, s0, s1, s2, s6, s7, hnx], by simp (disch := first | (simp only [go_sem, gb0, eq_self]; done) | omega | (simp only [gl1, gl2]; omega)) only [go_sem, ↓reduceIte, Nat.reduceEqDiff, Nat.reduceAdd, Nat.reduceMul, Nat.reduceSub, Int.reduceToNat, Nat.reduceBEq, s0, s1, s2, s6, s7, hnx], by simp (disch := first | (simp only [go_sem, gb0, eq_self]; done) | omega | (simp only [gl1, gl2]; omega)) only [go_sem, ↓reduceIte, Nat.reduceEqDiff, Nat.reduceAdd, Nat.reduceMul, Nat.reduceSub, Int.reduceToNat, Nat.reduceBEq, s0, s1, s2, s6, s7, hnx], by simp (disch := first | (simp only [go_sem, gb0, eq_self]; done) | omega | (simp only [gl1, gl2]; omega)) only [go_sem, ↓reduceIte, Nat.reduceEqDiff, Nat.reduceAdd, Nat.reduceMul, Nat.reduceSub, Int.reduceToNat, Nat.reduceBEq, s0, s1, s2, s6, s7, hnx], by simp (disch := first | (simp only [go_sem, gb0, eq_self]; done) | omega | (simp only [gl1, gl2]; omega)) only [go_sem, ↓reduceIte, Nat.reduceEqDiff, Nat.reduceAdd, Nat.reduceMul, Nat.reduceSub, Int.reduceToNat, Nat.reduceBEq, hnx], by simp (disch := first | (simp only [go_sem, gb0, eq_self]; done) | omega | (simp only [gl1, gl2]; omega)) only [go_sem, ↓reduceIte, Nat.reduceEqDiff, Nat.reduceAdd, Nat.reduceMul, Nat.reduceSub, Int.reduceToNat, Nat.reduceBEq, hnx, b0], by simp (disch := first | (simp only [go_sem, gb0, eq_self]; done) | omega | (simp only [gl1, gl2]; omega)) only [go_sem, ↓reduceIte, Nat.reduceEqDiff, Nat.reduceAdd, Nat.reduceMul, Nat.reduceSub, Int.reduceToNat, Nat.reduceBEq, hnx, b1], by simp (disch := first | (simp only [go_sem, gb0, eq_self]; done) | omega | (simp only [gl1, gl2]; omega)) only [go_sem, ↓reduceIte, Nat.reduceEqDiff, Nat.reduceAdd, Nat.reduceMul, Nat.reduceSub, Int.reduceToNat, Nat.reduceBEq, hnx]⟩ ?_
  clear s0 s1 s2 s6 s7 hnx b0 b1 h
  rintro st h ⟨s0, s2, s6, s7, s9, s10, hnx, b0, b1, b2⟩
  simp (disch := first | (simp only [go_sem, gb0, eq_self]; done) | omega | (simp only [gl1, gl2]; omega)) only [go_sem, ↓reduceIte, Nat.reduceEqDiff, Nat.reduceAdd, Nat.reduceMul, Nat.reduceSub, Int.reduceToNat, Nat.reduceBEq, s0, s2, s6, s7, s9, s10, hnx, b0, b1, b2, hal0, hr0, h0, ky, hsw, ↓stopY 3 true]
  refine WPy_go (fun st h => st 6 = .ptr 0 0 ∧ st 7 = .ptr 1 0 ∧ st 9 = .ptr 2 0 ∧ st 10 = .bool p ∧ st 11 = .ptr 3 0 ∧ st 12 = .bool q ∧ h.nx = 4 ∧ h.bl 0 = some (.cells false false [.nil, I 0]) ∧ h.bl 1 = some (.cells false false [.nil, I 0]) ∧ h.bl 2 = some (.cells false false [v, I d]) ∧ h.bl 3 = some (.cells false false [w, I e])) ⟨by simp (disch := first | (simp only [go_sem, gb0, eq_self]; done) | omega | (simp only [gl1, gl2]; omega)) only [go_sem, ↓reduceIte, Nat.reduceEqDiff, Nat.reduceAdd, Nat.reduceMul, Nat.reduceSub, Int.reduceToNat, Nat.reduceBEq, s0, s2, s6, s7, s9, s10, hnx], by simp (disch := first | (simp only [go_sem, gb0, eq_self]; done) | omega | (simp only [gl1, gl2]; omega)) only [go_sem, ↓reduceIte, Nat.reduceEqDiff, Nat.reduceAdd, Nat.reduceMul, Nat.reduceSub, Int.reduceToNat, Nat.reduceBEq, s0, s2, s6, s7, s9, s10, hnx], by simp (disch := first | (simp only [go_sem, gb0, eq_self]; done) | omega | (simp only [gl1, gl2]; omega)) only [go_sem, ↓reduceIte, Nat.reduceEqDiff, Nat.reduceAdd, Nat.reduceMul, Nat.reduceSub, Int.reduceToNat, Nat.reduceBEq, s0, s2, s6, s7, s9, s10, hnx], by simp (disch := first | (simp only [go_sem, gb0, eq_self]; done) | omega | (simp only [gl1, gl2]; omega)) only [go_sem, ↓reduceIte, Nat.reduceEqDiff, Nat.reduceAdd, Nat.reduceMul, Nat.reduceSub, Int.reduceToNat, Nat.reduceBEq, s0, s2, s6, s7, s9, s10, hnx], by simp (disch := first | (simp only [go_sem, gb0, eq_self]; done) | omega | (simp only [gl1, gl2]; omega)) only [go_sem, ↓reduceIte, Nat.reduceEqDiff, Nat.reduceAdd, Nat.reduceMul, Nat.reduceSub, Int.reduceToNat, Nat.reduceBEq, s0, s2, s6, s7, s9, s10, hnx], by simp (disch := first | (simp only [go_sem, gb0, eq_self]; done) | omega | (simp only [gl1, gl2]; omega)) only [go_sem, ↓reduceIte, Nat.reduceEqDiff, Nat.reduceAdd, Nat.reduceMul, Nat.reduceSub, Int.reduceToNat, Nat.reduceBEq, s0, s2, s6, s7, s9, s10, hnx], by simp (disch := first | (simp only [go_sem, gb0, eq_self]; done) | omega | (simp only [gl1, gl2]; omega)) only [go_sem, ↓reduceIte, Nat.reduceEqDiff, Nat.reduceAdd, Nat.reduceMul, Nat.reduceSub, Int.reduceToNat, Nat.reduceBEq, hnx], by simp (disch := first | (simp only [go_sem, gb0, eq_self]; done) | omega | (simp only [gl1, gl2]; omega)) only [go_sem, ↓reduceIte, Nat.reduceEqDiff, Nat.reduceAdd, Nat.reduceMul, Nat.reduceSub, Int.reduceToNat, Nat.reduceBEq, hnx, b0], by simp (disch := first | (simp only [go_sem, gb0, eq_self]; done) | omega | (simp only [gl1, gl2]; omega)) only [go_sem, ↓reduceIte, Nat.reduceEqDiff, Nat.reduceAdd, Nat.reduceMul, Nat.reduceSub, Int.reduceToNat, Nat.reduceBEq, hnx, b1], by simp (disch := first | (simp only [go_sem, gb0, eq_self]; done) | omega | (simp only [gl1, gl2]; omega)) only [go_sem, ↓reduceIte, Nat.reduceEqDiff, Nat.reduceAdd, Nat.reduceMul, Nat.reduceSub, Int.reduceToNat, Nat.reduceBEq, hnx, b2], by simp (disch := first | (simp only [go_sem, gb0, eq_self]; done) | omega | (simp only [gl1, gl2]; omega)) only [go_sem, ↓reduceIte, Nat.reduceEqDiff, Nat.reduceAdd, Nat.reduceMul, Nat.reduceSub, Int.reduceToNat, Nat.reduceBEq, hnx]⟩ ?_
  clear s0 s2 s6 s7 s9 s10 hnx b0 b1 b2 h
  rintro st h ⟨s6, s7, s9, s10, s11, s12, hnx, b0, b1, b2, b3⟩
  cases p with
  | false => 
    rw [Bool.false_and]
    simp (maxSteps := 3000000) (disch := first | (simp only [go_sem, gb0, eq_self]; done) | omega | (simp only [gl1, gl2]; omega)) only [go_sem, ↓reduceIte, Nat.reduceEqDiff, Nat.reduceAdd, Nat.reduceMul, Nat.reduceSub, Int.reduceToNat, Nat.reduceBEq, s6, s7, s9, s10, s11, s12, hnx, b0, b1, b2, b3, hsv, hsw, List.filterMap_cons, List.filterMap_nil, List.contains_nil, List.contains_cons, Bool.not_false, Bool.not_true, Bool.or_true, Bool.true_or, List.nil_append, List.cons_append, Nat.reduceLT, decide_true, decide_false, List.drop_succ_cons]
    exact fin _ _
  | true => 
    rw [Bool.true_and]
    simp (maxSteps := 3000000) (disch := first | (simp only [go_sem, gb0, eq_self]; done) | omega | (simp only [gl1, gl2]; omega)) only [go_sem, ↓reduceIte, Nat.reduceEqDiff, Nat.reduceAdd, Nat.reduceMul, Nat.reduceSub, Int.reduceToNat, Nat.reduceBEq, s6, s7, s9, s10, s11, s12, hnx, b0, b1, b2, b3, hsv, hsw, List.filterMap_cons, List.filterMap_nil, List.contains_nil, List.contains_cons, Bool.not_false, Bool.not_true, Bool.or_true, Bool.true_or, List.nil_append, List.cons_append, Nat.reduceLT, decide_true, decide_false, List.drop_succ_cons]
    exact fin _ _
theorem mxR_form (m n : Nat) (x y : List (Int × Int)) : ∃ v d w e, mxR m n x y = .tup [.agg [v, I d], .agg [w, I e], .bool (shB m x && shB n y)] ∧ (AV.agg [v, I d] = shV m x ∧ AV.agg [w, I e] = shV n y) ∧ (v.isPure = true ∧ v.isCell = true) ∧ w.isPure = true ∧ w.isCell = true := by
  obtain ⟨v, d, hv, hvp, hvc⟩ := shV_form m x
  obtain ⟨w, e, hw, hwp, hwc⟩ := shV_form n y
  exact ⟨v, d, w, e, by rw [mxR, hv, hw], ⟨hv.symm, hw.symm⟩, ⟨hvp, hvc⟩, hwp, hwc⟩
theorem k63 {a : List (List Int)} {m n : Nat} (T : Tb a m n) (x y : List (Int × Int)) (hx : x.length ≤ maxLen) (hy : y.length ≤ maxLen) : ConW Try.prog cfg 63 h (some ([LLI a, LP x, LP y], h')) K = K (mxR m n x y) h' := by
  rw [ConW_any (f63_con T x y hx hy) (by unfold mxR shV; split <;> split <;> rfl) (by unfold mxR shV; split <;> split <;> rfl)]
  have : importR h' (mxR m n x y) = (mxR m n x y, h') := by unfold mxR shV; split <;> split <;> rfl
  rw [this]

/-! ### fractions -/
/-! ### Check -/
def chkI (a b : List (List Int)) (x y : List (Int × Int)) : Int :=
  if gamB a b then (if shB a.length x && shB (nth a 0).length y then (if bestB a a.length (nth a 0).length (numL x) (numL y) && bestB (turnL b a.length (nth a 0).length) (nth a 0).length a.length (numL y) (numL x) then 0 else 10) else 2) else 2
theorem f32_con (a b : List (List Int)) (x y : List (Int × Int)) (ha : okLL a) (hb : okLL b) (hx : x.length ≤ maxLen) (hy : y.length ≤ maxLen) : Con Try.prog cfg 32 [LLI a, LLI b, LP x, LP y] (I (chkI a b x y)) := by
  have kk52 := fun h h' K => k52 (h := h) (h' := h') (K := K) a b ha hb
  cases c1 : gamB a b with
  | false =>
    have hr : chkI a b x y = 2 := by rw [chkI, c1]; rfl
    rw [hr]
    refine Con_intro Try.func32 rfl ok32 (Nat.le_of_ble_eq_true rfl) rfl ?_
    simp only [Try.f32, Option.getD_some, initSt4]
    simp (disch := first | (simp only [go_sem, gb0, eq_self]; done) | omega | (simp only [gl1, gl2]; omega)) only [go_sem, ↓reduceIte, Nat.reduceEqDiff, Nat.reduceAdd, Nat.reduceMul, Nat.reduceSub, Int.reduceToNat, Nat.reduceBEq, kk52, c1]
  | true =>
  obtain ⟨Ta, Tb'⟩ := gamB_Tb c1
  have hce : chkI a b x y = (if shB a.length x && shB (nth a 0).length y then (if bestB a a.length (nth a 0).length (numL x) (numL y) && bestB (turnL b a.length (nth a 0).length) (nth a 0).length a.length (numL y) (numL x) then 0 else 10) else 2) := by rw [chkI, c1]; rfl
  rw [hce]
  have hm1 := Ta.m1
  have hn1 := Ta.n1
  generalize hm : a.length = m at *
  generalize hn : (nth a 0).length = n at *
  have kk63 := fun h h' K => k63 (h := h) (h' := h') (K := K) Ta x y hx hy
  obtain ⟨v, d, w, e, hmx, ⟨hv, hw⟩, ⟨hvp, hvc⟩, hwp, hwc⟩ := mxR_form m n x y
  rw [hmx] at kk63
  have hal0 : ∀ g : Hp, allocB g (some (.agg [.nil, I 0])) = some (.ptr g.nx 0, g.alloc (.cells false false [.nil, I 0])) := fun g => allocB_agg _ rfl
  have hst : ∀ (g : Hp) (id : Nat) (a b : AV) (v : AV) (d : Int), v.isCell = true → storeC g id 0 2 (some (.cells false false [a, b])) [v, I d] = some (.skp, g.put id (some (.cells false false [v, I d]))) := fun g id a b v d hv => by simp [storeC, setL, hv]; rfl
  have hsv := fun g id a b => hst g id a b v d hvc
  have hsw := fun g id a b => hst g id a b w e hwc
  refine Con_intro Try.func32 rfl ok32 (Nat.le_of_ble_eq_true rfl) rfl ?_
  simp only [Try.f32, Option.getD_some, initSt4]
  simp (disch := first | (simp only [go_sem, gb0, eq_self]; done) | omega | (simp only [gl1, gl2]; omega)) only [go_sem, ↓reduceIte, Nat.reduceEqDiff, Nat.reduceAdd, Nat.reduceMul, Nat.reduceSub, Int.reduceToNat, Nat.reduceBEq, kk52, c1, ↓stopY 3 false]
  refine WPy_go (fun st h => st 0 = LLI a ∧ st 1 = LLI b ∧ st 2 = LP x ∧ st 3 = LP y ∧ h.nx = 0) ⟨by simp (disch := first | (simp only [go_sem, gb0, eq_self]; done) | omega | (simp only [gl1, gl2]; omega)) only [go_sem, ↓reduceIte, Nat.reduceEqDiff, Nat.reduceAdd, Nat.reduceMul, Nat.reduceSub, Int.reduceToNat, Nat.reduceBEq], by simp (disch := first | (simp only [go_sem, gb0, eq_self]; done) | omega | (simp only [gl1, gl2]; omega)) only [go_sem, ↓reduceIte, Nat.reduceEqDiff, Nat.reduceAdd, Nat.reduceMul, Nat.reduceSub, Int.reduceToNat, Nat.reduceBEq], by simp (disch := first | (simp only [go_sem, gb0, eq_self]; done) | omega | (simp only [gl1, gl2]; omega)) only [go_sem, ↓reduceIte, Nat.reduceEqDiff, Nat.reduceAdd, Nat.reduceMul, Nat.reduceSub, Int.reduceToNat, Nat.reduceBEq], by simp (disch := first | (simp only [go_sem, gb0, eq_self]; done) | omega | (simp only [gl1, gl2]; omega)) only [go_sem, ↓reduceIte, Nat.reduceEqDiff, Nat.reduceAdd, Nat.reduceMul, Nat.reduceSub, Int.reduceToNat, Nat.reduceBEq], by simp (disch := first | (simp only [go_sem, gb0, eq_self]; done) | omega | (simp only [gl1, gl2]; omega)) only [go_sem, ↓reduceIte, Nat.reduceEqDiff, Nat.reduceAdd, Nat.reduceMul, Nat.reduceSub, Int.reduceToNat, Nat.reduceBEq]⟩ ?_
  rintro st h ⟨s0, s1, s2, s3, hnx⟩
  simp (disch := first | (simp only [go_sem, gb0, eq_self]; done) | omega | (simp only [gl1, gl2]; omega)) only [go_sem, ↓reduceIte, Nat.reduceEqDiff, Nat.reduceAdd, Nat.reduceMul, Nat.reduceSub, Int.reduceToNat, Nat.reduceBEq, s0, s1, s2, s3, hnx, kk63, hal0, hsv, hsw, ↓stopY 4 false]
  refine WPy_go (fun st h => st 0 = LLI a ∧ st 1 = LLI b ∧ st 9 = .ptr 0 0 ∧ st 10 = .ptr 1 0 ∧ st 11 = .bool (shB m x && shB n y) ∧ h.nx = 2 ∧ h.bl 0 = some (.cells false false [v, I d]) ∧ h.bl 1 = some (.cells false false [w, I e])) ⟨by simp (disch := first | (simp only [go_sem, gb0, eq_self]; done) | omega | (simp only [gl1, gl2]; omega)) only [go_sem, ↓reduceIte, Nat.reduceEqDiff, Nat.reduceAdd, Nat.reduceMul, Nat.reduceSub, Int.reduceToNat, Nat.reduceBEq, s0, s1, s2, s3, hnx], by simp (disch := first | (simp only [go_sem, gb0, eq_self]; done) | omega | (simp only [gl1, gl2]; omega)) only [go_sem, ↓reduceIte, Nat.reduceEqDiff, Nat.reduceAdd, Nat.reduceMul, Nat.reduceSub, Int.reduceToNat, Nat.reduceBEq, s0, s1, s2, s3, hnx], by simp (disch := first | (simp only [go_sem, gb0, eq_self]; done) | omega | (simp only [gl1, gl2]; omega)) only [go_sem, ↓reduceIte, Nat.reduceEqDiff, Nat.reduceAdd, Nat.reduceMul, Nat.reduceSub, Int.reduceToNat, Nat.reduceBEq, s0, s1, s2, s3, hnx], by simp (disch := first | (simp only [go_sem, gb0, eq_self]; done) | omega | (simp only [gl1, gl2]; omega)) only [go_sem, ↓reduceIte, Nat.reduceEqDiff, Nat.reduceAdd, Nat.reduceMul, Nat.reduceSub, Int.reduceToNat, Nat.reduceBEq, s0, s1, s2, s3, hnx], by simp (disch := first | (simp only [go_sem, gb0, eq_self]; done) | omega | (simp only [gl1, gl2]; omega)) only [go_sem, ↓reduceIte, Nat.reduceEqDiff, Nat.reduceAdd, Nat.reduceMul, Nat.reduceSub, Int.reduceToNat, Nat.reduceBEq], by simp (disch := first | (simp only [go_sem, gb0, eq_self]; done) | omega | (simp only [gl1, gl2]; omega)) only [go_sem, ↓reduceIte, Nat.reduceEqDiff, Nat.reduceAdd, Nat.reduceMul, Nat.reduceSub, Int.reduceToNat, Nat.reduceBEq, hnx], by simp (disch := first | (simp only [go_sem, gb0, eq_self]; done) | omega | (simp only [gl1, gl2]; omega)) only [go_sem, ↓reduceIte, Nat.reduceEqDiff, Nat.reduceAdd, Nat.reduceMul, Nat.reduceSub, Int.reduceToNat, Nat.reduceBEq, hnx], by simp (disch := first | (simp only [go_sem, gb0, eq_self]; done) | omega | (simp only [gl1, gl2]; omega)) only [go_sem, ↓reduceIte, Nat.reduceEqDiff, Nat.reduceAdd, Nat.reduceMul, Nat.reduceSub, Int.reduceToNat, Nat.reduceBEq, hnx]⟩ ?_
  clear s0 s1 s2 s3 hnx h
  rintro st h ⟨s0, s1, s9, s10, s11, hnx, b0, b1⟩
  cases c2 : shB m x && shB n y with
  | false =>
    rw [c2] at s11
    simp (disch := first | (simp only [go_sem, gb0, eq_self]; done) | omega | (simp only [gl1, gl2]; omega)) only [go_sem, ↓reduceIte, Nat.reduceEqDiff, Nat.reduceAdd, Nat.reduceMul, Nat.reduceSub, Int.reduceToNat, Nat.reduceBEq, s0, s1, s9, s10, s11]
  | true =>
  rw [c2] at s11
  rw [Bool.and_eq_true] at c2
  have X := shB_Sh hm1 c2.1
  have Y := shB_Sh hn1 c2.2
  rw [shB_V c2.1] at hv
  rw [shB_V c2.2] at hw
  cases hv
  cases hw
  have kk64 := fun h h' K => k64 (h := h) (h' := h') (K := K) Ta X Y
  have kk53 := fun h h' K => k53 (h := h) (h' := h') (K := K) Tb'
  have kk64' := fun h h' K => k64 (h := h) (h' := h') (K := K) (turnL_Tb Tb') Y X
  cases c3 : bestB a m n (numL x) (numL y) with
  | false =>
    simp (disch := first | (simp only [go_sem, gb0, eq_self]; done) | omega | (simp only [gl1, gl2]; omega)) only [go_sem, ↓reduceIte, Nat.reduceEqDiff, Nat.reduceAdd, Nat.reduceMul, Nat.reduceSub, Int.reduceToNat, Nat.reduceBEq, s0, s1, s9, s10, s11, hnx, b0, b1, kk64, c3]
  | true =>
  cases c4 : bestB (turnL b m n) n m (numL y) (numL x) with
  | false =>
    simp (disch := first | (simp only [go_sem, gb0, eq_self]; done) | omega | (simp only [gl1, gl2]; omega)) only [go_sem, ↓reduceIte, Nat.reduceEqDiff, Nat.reduceAdd, Nat.reduceMul, Nat.reduceSub, Int.reduceToNat, Nat.reduceBEq, s0, s1, s9, s10, s11, hnx, b0, b1, kk64, c3, kk53, kk64', c4]
  | true =>
    simp (disch := first | (simp only [go_sem, gb0, eq_self]; done) | omega | (simp only [gl1, gl2]; omega)) only [go_sem, ↓reduceIte, Nat.reduceEqDiff, Nat.reduceAdd, Nat.reduceMul, Nat.reduceSub, Int.reduceToNat, Nat.reduceBEq, s0, s1, s9, s10, s11, hnx, b0, b1, kk64, c3, kk53, kk64', c4]
end Go.Proofs.Ytcdpkgmkckfonaa
