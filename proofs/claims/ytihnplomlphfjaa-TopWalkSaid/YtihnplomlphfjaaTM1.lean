/-
  Building the structs of this layer.
  The small functions: within, the tests of a list, reduced, whole.
  newNetwork: what a network is.
  whole, reduced.
  weight: the product of the probabilities of a row of values.
  Joint.
  The reference: networks, weights, fractions.
  The reference: weights, fractions, Joint.
  list, network: copies of any input.
  facts: a map from variables to values.
  each: all rows of values that agree with a map, one after the other.
  sum: the weights of all rows that agree with a map.
  Chance: a loop over a map.
-/
import Derived.Test.YtihnplomlphfjaaTBFacts
set_option linter.unusedVariables false
set_option linter.unusedSimpArgs false
set_option maxRecDepth 10000
namespace Go.Proofs.Ytihnplomlphfjaa.B
open Go Go.Am

variable {c : Cfg} {h h' : Hp} {K : AV → Hp → Prop} {ops : Array Oper} {lim : Option Nat} {st : St}

@[go_sem ↓ high] theorem W_b79z : StepW Try.prog c ops lim (.build 55 #[]) st h K = K (.agg [.nil, .nil, I 0]) h := by
  rw [W_build, show buildB Try.prog (Try.prog.underlying 55) (izero Try.prog 55) ((#[] : Array (Nat × Operand)).toList.map fun p => (p.1, ev st p.2)) = some (.agg [.nil, .nil, I 0]) by kernel_rfl]
  exact getW_some _
@[go_sem ↓ high] theorem W_b29z : StepW Try.prog c ops lim (.build 32 #[]) st h K = K (.agg [I 0, I 0]) h := by
  rw [W_build, show buildB Try.prog (Try.prog.underlying 32) (izero Try.prog 32) ((#[] : Array (Nat × Operand)).toList.map fun p => (p.1, ev st p.2)) = some (.agg [I 0, I 0]) by kernel_rfl]
  exact getW_some _
/-- Two numbers, as a fraction. -/
noncomputable def mk29 (x y : AV) : Option AV := buildB Try.prog (Try.prog.underlying 32) (izero Try.prog 32) [(0, x), (1, y)]
@[go_sem ↓ high] theorem W_b29 (a b : Operand) : StepW Try.prog c ops lim (.build 32 #[(0, a), (1, b)]) st h K = getW (mk29 (ev st a) (ev st b)) h K := by
  rw [W_build]; rfl
@[go_sem] theorem mk29_I (x y : Int) : mk29 (I x) (I y) = some (.agg [I x, I y]) := by kernel_rfl
noncomputable def mk79 (x y : AV) : Option AV := buildB Try.prog (Try.prog.underlying 55) (izero Try.prog 55) [(0, x), (1, y)]
@[go_sem ↓ high] theorem W_b79 (a b : Operand) : StepW Try.prog c ops lim (.build 55 #[(0, a), (1, b)]) st h K = getW (mk79 (ev st a) (ev st b)) h K := by
  rw [W_build]; rfl
@[go_sem] theorem mk79_I (p t : List (List Int)) (n : Int) : mk79 (.agg [LLI p, LLI t]) (I n) = some (.agg [LLI p, LLI t, I n]) := by kernel_rfl
noncomputable def eq29 (x y : AV) : Option AV := binA Try.prog .eql 32 x y
noncomputable def ne29 (x y : AV) : Option AV := binA Try.prog .neq 32 x y
@[go_sem] theorem eq29_I (a b c d : Int) : eq29 (.agg [I a, I b]) (.agg [I c, I d]) = some (.bool (decide (a = c) && decide (b = d))) := by
  have : eq29 (.agg [I a, I b]) (.agg [I c, I d]) = some (.bool ((a == c && (b == d && true)) == true)) := by kernel_rfl
  rw [this]; simp [Bool.beq_eq_decide_eq]
@[go_sem] theorem ne29_I (a b c d : Int) : ne29 (.agg [I a, I b]) (.agg [I c, I d]) = some (.bool (!(decide (a = c) && decide (b = d)))) := by
  have : ne29 (.agg [I a, I b]) (.agg [I c, I d]) = some (.bool ((a == c && (b == d && true)) == false)) := by kernel_rfl
  rw [this]; simp [Bool.beq_eq_decide_eq]

@[go_sem] theorem storeC_w2 (id : Nat) (row : Bool) (a b x y : AV) : storeC h id 0 2 (some (.cells false row [a, b])) [x, y] = if (x.isCell && y.isCell) = true then some (.skp, h.put id (some (.cells false row [x, y]))) else none := by
  simp [storeC, setL]
@[go_sem] theorem storeC_w3 (id : Nat) (row : Bool) (a b c x y z : AV) : storeC h id 0 3 (some (.cells false row [a, b, c])) [x, y, z] = if (x.isCell && (y.isCell && z.isCell)) = true then some (.skp, h.put id (some (.cells false row [x, y, z]))) else none := by
  simp [storeC, setL]

@[go_sem] theorem ev_nilmap : ev st (.const (.map none)) = .nilmp := rfl

/-! ### Results that lie in memory -/
def resC (P : Program) (h : Hp) (t : TypeId) : AV → Option AV
  | .ptr id off => loadC (P.underlying t) (isz P t) (cellsAt none h (.ptr id off))
  | _ => none
@[go_sem] theorem resC_ptr (P : Program) (t : TypeId) (id off : Nat) : resC P h t (.ptr id off) = loadC (P.underlying t) (isz P t) (cellsAt none h (.ptr id off)) := rfl
theorem resA_cell (P : Program) (a t : Nat) : resA P h st (.cell a t) = resC P h t (st a) := by
  simp only [resA]
  cases st a <;> try rfl
  rename_i id off
  simp only [resC, loadC, cellsAt, loadA_B]
  cases rd h none id <;> rfl
@[go_sem] theorem resR_c (P : Program) (a t : Nat) : resR P h st [.cell a t] = resC P h t (st a) := by
  simp only [resR, resL, resA_cell]; cases resC P h t (st a) <;> rfl
@[go_sem] theorem resR_ct (P : Program) (a t u : Nat) : resR P h st [.cell a t, .tmp u] = (resC P h t (st a)).bind fun v => some (.tup [v, st u]) := by
  simp only [resR, resL, resA_cell]; cases resC P h t (st a) <;> rfl
/-! ### copy -/
def slId : AV → Nat
  | .sl id _ _ _ => id
  | _ => 0
@[go_sem] theorem slId_sl (id o n s : Nat) : slId (.sl id o n s) = id := rfl
/-! ### A part of an array -/
def sliceC (s : Option Nat) (n off id : Nat) (lo hi : Option AV) (b : Option Blk) (l : Bool) : Option AV :=
  (hiB hi n).bind fun b' => (loB lo b').bind fun a => match s, b with
    | some sz, some (.cells _ false flat) => if off + n * sz ≤ flat.length ∧ n ≤ maxLen ∧ l = true then some (.sl id (off + a * sz) (b' - a) sz) else none
    | _, _ => none
@[go_sem] theorem sliceB_arr (P : Program) (n e id off : Nat) (lo hi : Option AV) : sliceB P (some (.array n e)) (.ptr id off) lo hi h lim = sliceC (isz P e) n off id lo hi (h.bl id) (lims lim id) := rfl
end Go.Proofs.Ytihnplomlphfjaa.B

set_option linter.unusedVariables false
set_option linter.unusedSimpArgs false
set_option maxRecDepth 10000
namespace Go.Proofs.Ytihnplomlphfjaa.B
open Go Go.Am

variable {h h' : Hp} {K : AV → Hp → Prop}

def inB (x lo hi : Int) : Bool := decide (lo ≤ x ∧ x ≤ hi)
theorem f49_con (x lo hi : Int) : Con Try.prog cfg 22 [I x, I lo, I hi] (.bool (inB x lo hi)) := by
  refine Con_intro Try.func22 rfl ok49 (Nat.le_of_ble_eq_true rfl) rfl ?_
  simp only [Try.f22, Option.getD_some, initSt3]
  by_cases h1 : lo ≤ x
  case neg =>
    have : inB x lo hi = false := by simp [inB, h1]
    simp (disch := first | (simp only [go_sem, Bool.and_self, eq_self]; done) | omega | (simp only [List.length_cons, List.length_nil]; omega)) only [go_sem, ↓reduceIte, Nat.reduceEqDiff, Nat.reduceAdd, Nat.reduceMul, Nat.reduceSub, Int.reduceToNat, Nat.reduceBEq, List.size_toArray, List.length_cons, List.length_nil, Bool.false_and, Bool.true_and, Bool.or_false, Bool.false_or, Bool.and_false, Bool.and_true, h1, this]
  by_cases h2 : x ≤ hi
  case neg =>
    have : inB x lo hi = false := by simp [inB, h2]
    simp (disch := first | (simp only [go_sem, Bool.and_self, eq_self]; done) | omega | (simp only [List.length_cons, List.length_nil]; omega)) only [go_sem, ↓reduceIte, Nat.reduceEqDiff, Nat.reduceAdd, Nat.reduceMul, Nat.reduceSub, Int.reduceToNat, Nat.reduceBEq, List.size_toArray, List.length_cons, List.length_nil, Bool.false_and, Bool.true_and, Bool.or_false, Bool.false_or, Bool.and_false, Bool.and_true, h1, h2, this]
  have : inB x lo hi = true := by simp [inB, h1, h2]
  simp (disch := first | (simp only [go_sem, Bool.and_self, eq_self]; done) | omega | (simp only [List.length_cons, List.length_nil]; omega)) only [go_sem, ↓reduceIte, Nat.reduceEqDiff, Nat.reduceAdd, Nat.reduceMul, Nat.reduceSub, Int.reduceToNat, Nat.reduceBEq, List.size_toArray, List.length_cons, List.length_nil, Bool.false_and, Bool.true_and, Bool.or_false, Bool.false_or, Bool.and_false, Bool.and_true, h1, h2, this]
@[go_sem] theorem k49 (x lo hi : Int) : ConW Try.prog cfg 22 h (some ([I x, I lo, I hi], h')) K = K (.bool (inB x lo hi)) h := ConW_num (f49_con x lo hi) rfl

theorem f71_con (x : Int) : Con Try.prog cfg 41 [I x] (.bool (!inB x 0 16)) := by
  refine Con_intro Try.func41 rfl ok71 (Nat.le_of_ble_eq_true rfl) rfl ?_
  simp only [Try.f41, Option.getD_some, initSt1]
  simp (disch := first | (simp only [go_sem, Bool.and_self, eq_self]; done) | omega | (simp only [List.length_cons, List.length_nil]; omega)) only [go_sem, ↓reduceIte, Nat.reduceEqDiff, Nat.reduceAdd, Nat.reduceMul, Nat.reduceSub, Int.reduceToNat, Nat.reduceBEq, List.size_toArray, List.length_cons, List.length_nil, Bool.false_and, Bool.true_and, Bool.or_false, Bool.false_or, Bool.and_false, Bool.and_true]

/-- The first index that a test takes. -/
def idxF (p : Int → Bool) (xs : List Int) : Int := match xs.findIdx? p with | some i => i | none => -1
theorem f72_con (g : FuncId) (hs : cfg.shared g = false) (p : Int → Bool) (hp : ∀ x, Con Try.prog cfg g [I x] (.bool (p x))) (xs : List Int) (hl : xs.length ≤ maxLen) : Con Try.prog cfg 42 [LI xs, .fn g []] (I (idxF p xs)) := by
  have ml : maxLen = 9223372036854775807 := by decide
  have kk := fun args h K => CallW_out (P := Try.prog) (cfg := cfg) (h := h) (K := K) g args hs
  have kp := fun x h h' K => ConW_num (h := h) (h' := h') (K := K) (r := .bool (p x)) (hp x) rfl
  refine Con_intro Try.func42 rfl ok72 (Nat.le_of_ble_eq_true rfl) rfl ?_
  simp only [Try.f42, Option.getD_some, initSt2]
  simp (disch := first | (simp only [go_sem, Bool.and_self, eq_self]; done) | omega | (simp only [List.length_cons, List.length_nil]; omega)) only [go_sem, ↓reduceIte, Nat.reduceEqDiff, Nat.reduceAdd, Nat.reduceMul, Nat.reduceSub, Int.reduceToNat, Nat.reduceBEq, List.size_toArray, List.length_cons, List.length_nil, Bool.false_and, Bool.true_and, Bool.or_false, Bool.false_or, Bool.and_false, Bool.and_true]
  refine WP_for 8 xs.length (fun i st h => st 0 = LI xs ∧ st 1 = .fn g [] ∧ st 7 = I xs.length ∧ ∀ j, j < i → p (nth xs j) = false) (by simp (disch := first | (simp only [go_sem, Bool.and_self, eq_self]; done) | omega | (simp only [List.length_cons, List.length_nil]; omega)) only [go_sem, ↓reduceIte, Nat.reduceEqDiff, Nat.reduceAdd, Nat.reduceMul, Nat.reduceSub, Int.reduceToNat, Nat.reduceBEq, List.size_toArray, List.length_cons, List.length_nil, Bool.false_and, Bool.true_and, Bool.or_false, Bool.false_or, Bool.and_false, Bool.and_true]) ⟨by simp (disch := first | (simp only [go_sem, Bool.and_self, eq_self]; done) | omega | (simp only [List.length_cons, List.length_nil]; omega)) only [go_sem, ↓reduceIte, Nat.reduceEqDiff, Nat.reduceAdd, Nat.reduceMul, Nat.reduceSub, Int.reduceToNat, Nat.reduceBEq, List.size_toArray, List.length_cons, List.length_nil, Bool.false_and, Bool.true_and, Bool.or_false, Bool.false_or, Bool.and_false, Bool.and_true], by simp (disch := first | (simp only [go_sem, Bool.and_self, eq_self]; done) | omega | (simp only [List.length_cons, List.length_nil]; omega)) only [go_sem, ↓reduceIte, Nat.reduceEqDiff, Nat.reduceAdd, Nat.reduceMul, Nat.reduceSub, Int.reduceToNat, Nat.reduceBEq, List.size_toArray, List.length_cons, List.length_nil, Bool.false_and, Bool.true_and, Bool.or_false, Bool.false_or, Bool.and_false, Bool.and_true], by simp (disch := first | (simp only [go_sem, Bool.and_self, eq_self]; done) | omega | (simp only [List.length_cons, List.length_nil]; omega)) only [go_sem, ↓reduceIte, Nat.reduceEqDiff, Nat.reduceAdd, Nat.reduceMul, Nat.reduceSub, Int.reduceToNat, Nat.reduceBEq, List.size_toArray, List.length_cons, List.length_nil, Bool.false_and, Bool.true_and, Bool.or_false, Bool.false_or, Bool.and_false, Bool.and_true], by omega⟩ ?_
  rintro i st h hi s8 ⟨s0, s1, s7, hj⟩
  by_cases hlt : i < xs.length
  case neg =>
    have : idxF p xs = -1 := by
      have : xs.findIdx? p = none := by
        rw [List.findIdx?_eq_none_iff]
        intro x hx
        obtain ⟨j, hj1, rfl⟩ := List.getElem_of_mem hx
        have := hj j (by omega)
        rwa [nth_getElem hj1] at this
      simp [idxF, this]
    simp (disch := first | (simp only [go_sem, Bool.and_self, eq_self]; done) | omega | (simp only [List.length_cons, List.length_nil]; omega)) only [go_sem, ↓reduceIte, Nat.reduceEqDiff, Nat.reduceAdd, Nat.reduceMul, Nat.reduceSub, Int.reduceToNat, Nat.reduceBEq, List.size_toArray, List.length_cons, List.length_nil, Bool.false_and, Bool.true_and, Bool.or_false, Bool.false_or, Bool.and_false, Bool.and_true, s0, s1, s7, s8, hlt, this]
  cases hpx : p (nth xs i) with
  | true =>
    have : idxF p xs = i := by
      have : xs.findIdx? p = some i := by
        rw [List.findIdx?_eq_some_iff_getElem]
        refine ⟨hlt, by rwa [nth_getElem hlt] at hpx, fun j hji => ?_⟩
        have := hj j hji
        rw [nth_getElem (by omega)] at this
        simp [this]
      simp [idxF, this]
    simp (disch := first | (simp only [go_sem, Bool.and_self, eq_self]; done) | omega | (simp only [List.length_cons, List.length_nil]; omega)) only [go_sem, ↓reduceIte, Nat.reduceEqDiff, Nat.reduceAdd, Nat.reduceMul, Nat.reduceSub, Int.reduceToNat, Nat.reduceBEq, List.size_toArray, List.length_cons, List.length_nil, Bool.false_and, Bool.true_and, Bool.or_false, Bool.false_or, Bool.and_false, Bool.and_true, s0, s1, s7, s8, hlt, kk, kp, hpx, this]
  | false =>
    simp (disch := first | (simp only [go_sem, Bool.and_self, eq_self]; done) | omega | (simp only [List.length_cons, List.length_nil]; omega)) only [go_sem, ↓reduceIte, Nat.reduceEqDiff, Nat.reduceAdd, Nat.reduceMul, Nat.reduceSub, Int.reduceToNat, Nat.reduceBEq, List.size_toArray, List.length_cons, List.length_nil, Bool.false_and, Bool.true_and, Bool.or_false, Bool.false_or, Bool.and_false, Bool.and_true, s0, s1, s7, s8, hlt, kk, kp, hpx]
    rw [ForK_normal]
    refine ⟨hlt, by simp (disch := first | (simp only [go_sem, Bool.and_self, eq_self]; done) | omega | (simp only [List.length_cons, List.length_nil]; omega)) only [go_sem, ↓reduceIte, Nat.reduceEqDiff, Nat.reduceAdd, Nat.reduceMul, Nat.reduceSub, Int.reduceToNat, Nat.reduceBEq, List.size_toArray, List.length_cons, List.length_nil, Bool.false_and, Bool.true_and, Bool.or_false, Bool.false_or, Bool.and_false, Bool.and_true, s8], by simp (disch := first | (simp only [go_sem, Bool.and_self, eq_self]; done) | omega | (simp only [List.length_cons, List.length_nil]; omega)) only [go_sem, ↓reduceIte, Nat.reduceEqDiff, Nat.reduceAdd, Nat.reduceMul, Nat.reduceSub, Int.reduceToNat, Nat.reduceBEq, List.size_toArray, List.length_cons, List.length_nil, Bool.false_and, Bool.true_and, Bool.or_false, Bool.false_or, Bool.and_false, Bool.and_true, s0], by simp (disch := first | (simp only [go_sem, Bool.and_self, eq_self]; done) | omega | (simp only [List.length_cons, List.length_nil]; omega)) only [go_sem, ↓reduceIte, Nat.reduceEqDiff, Nat.reduceAdd, Nat.reduceMul, Nat.reduceSub, Int.reduceToNat, Nat.reduceBEq, List.size_toArray, List.length_cons, List.length_nil, Bool.false_and, Bool.true_and, Bool.or_false, Bool.false_or, Bool.and_false, Bool.and_true, s1], by simp (disch := first | (simp only [go_sem, Bool.and_self, eq_self]; done) | omega | (simp only [List.length_cons, List.length_nil]; omega)) only [go_sem, ↓reduceIte, Nat.reduceEqDiff, Nat.reduceAdd, Nat.reduceMul, Nat.reduceSub, Int.reduceToNat, Nat.reduceBEq, List.size_toArray, List.length_cons, List.length_nil, Bool.false_and, Bool.true_and, Bool.or_false, Bool.false_or, Bool.and_false, Bool.and_true, s7], fun j hji => ?_⟩
    rcases Nat.lt_or_ge j i with h | h
    · exact hj j h
    · rwa [show j = i by omega]
theorem f47_con (g : FuncId) (hs : cfg.shared g = false) (p : Int → Bool) (hp : ∀ x, Con Try.prog cfg g [I x] (.bool (p x))) (xs : List Int) (hl : xs.length ≤ maxLen) : Con Try.prog cfg 20 [LI xs, .fn g []] (.bool (xs.any p)) := by
  have kk := fun h h' K => ConW_num (h := h) (h' := h') (K := K) (f72_con g hs p hp xs hl) rfl
  refine Con_intro Try.func20 rfl ok47 (Nat.le_of_ble_eq_true rfl) rfl ?_
  simp only [Try.f20, Option.getD_some, initSt2]
  have : decide (0 ≤ idxF p xs) = xs.any p := by
    unfold idxF
    cases hf : xs.findIdx? p with
    | none =>
      rw [List.findIdx?_eq_none_iff] at hf
      have : xs.any p = false := by rw [List.any_eq_false]; intro x hx; simp [hf x hx]
      simp [this]
    | some i =>
      rw [List.findIdx?_eq_some_iff_getElem] at hf
      obtain ⟨h1, h2, _⟩ := hf
      have : xs.any p = true := by rw [List.any_eq_true]; exact ⟨_, List.getElem_mem h1, h2⟩
      simp [this]
  have hsf : ∀ h : Hp, sealA h (.fn g []) = some (.fn g [], h) := fun _ => rfl
  simp (disch := first | (simp only [go_sem, Bool.and_self, eq_self]; done) | omega | (simp only [List.length_cons, List.length_nil]; omega)) only [go_sem, ↓reduceIte, Nat.reduceEqDiff, Nat.reduceAdd, Nat.reduceMul, Nat.reduceSub, Int.reduceToNat, Nat.reduceBEq, List.size_toArray, List.length_cons, List.length_nil, Bool.false_and, Bool.true_and, Bool.or_false, Bool.false_or, Bool.and_false, Bool.and_true, kk, this, hsf]

end Go.Proofs.Ytihnplomlphfjaa.B

set_option linter.unusedVariables false
set_option linter.unusedSimpArgs false
set_option maxRecDepth 10000
namespace Go.Proofs.Ytihnplomlphfjaa.B
open Go Go.Am

variable {h h' : Hp} {K : AV → Hp → Prop}

def okLL (a : List (List Int)) : Prop := a.length ≤ maxLen ∧ ∀ r ∈ a, r.length ≤ maxLen

theorem k47 (xs : List Int) (hl : xs.length ≤ maxLen) : ConW Try.prog cfg 20 h (some ([LI xs, .fn 41 []], h')) K = K (.bool (xs.any fun x => !inB x 0 16)) h :=
  ConW_num (f47_con 41 shr71 _ f71_con xs hl) rfl
/-- The parents of a variable: earlier ones, ascending. -/
def parB (r : List Int) (i j : Nat) : Bool := inB (nth r j) 0 ((i : Int) - 1) && (j == 0 || decide (nth r (j - 1) < nth r j))
def rowB (p t : List (List Int)) (i : Nat) : Bool :=
  decide ((nth p i).length ≤ 3) && decide ((nth t i).length = 2 ^ (nth p i).length) && (List.range (nth p i).length).all (parB (nth p i) i) && !(nth t i).any fun x => !inB x 0 16
def netB (p t : List (List Int)) : Bool := inB p.length 1 10 && decide (t.length = p.length) && (List.range p.length).all (rowB p t)

def netR (p t : List (List Int)) : AV := if netB p t then .tup [.agg [LLI p, LLI t, I p.length], I 0] else .tup [.agg [.nil, .nil, I 0], I 2]

theorem not_all_range {n i : Nat} {f : Nat → Bool} (hi : i < n) (h : f i = false) : (List.range n).all f = false := by
  rw [List.all_eq_false]; exact ⟨i, by simpa using hi, by simp [h]⟩
theorem all_range {n : Nat} {f : Nat → Bool} (h : ∀ i, i < n → f i = true) : (List.range n).all f = true := by
  rw [List.all_eq_true]; intro i hi; exact h i (by simpa using hi)

theorem netB_row {p t : List (List Int)} {i : Nat} (hi : i < p.length) (h : rowB p t i = false) : netR p t = .tup [.agg [.nil, .nil, I 0], I 2] := by
  simp only [netR, netB, not_all_range hi h, Bool.and_false, Bool.false_eq_true, if_false]

theorem f46_con (p t : List (List Int)) (hp : okLL p) (ht : okLL t) : Con Try.prog cfg 19 [.agg [LLI p, LLI t]] (netR p t) := by
  have ml : maxLen = 9223372036854775807 := by decide
  have hpl := hp.1
  have htl := ht.1
  refine Con_intro Try.func19 rfl ok46 (Nat.le_of_ble_eq_true rfl) rfl ?_
  simp only [Try.f19, Option.getD_some, initSt1]
  cases h1 : inB p.length 1 10 with
  | false =>
    have : netR p t = .tup [.agg [.nil, .nil, I 0], I 2] := by simp [netR, netB, h1]
    simp (disch := first | (simp only [go_sem, Bool.and_self, eq_self]; done) | omega | (simp only [List.length_cons, List.length_nil]; omega)) only [go_sem, ↓reduceIte, Nat.reduceEqDiff, Nat.reduceAdd, Nat.reduceMul, Nat.reduceSub, Int.reduceToNat, Nat.reduceBEq, List.size_toArray, List.length_cons, List.length_nil, Bool.false_and, Bool.true_and, Bool.or_false, Bool.false_or, Bool.and_false, Bool.and_true, h1, this]
  | true =>
  by_cases h2 : (t.length : Int) = p.length
  case neg =>
    have : netR p t = .tup [.agg [.nil, .nil, I 0], I 2] := by
      have : ¬ t.length = p.length := by omega
      simp [netR, netB, h1, this]
    simp (disch := first | (simp only [go_sem, Bool.and_self, eq_self]; done) | omega | (simp only [List.length_cons, List.length_nil]; omega)) only [go_sem, ↓reduceIte, Nat.reduceEqDiff, Nat.reduceAdd, Nat.reduceMul, Nat.reduceSub, Int.reduceToNat, Nat.reduceBEq, List.size_toArray, List.length_cons, List.length_nil, Bool.false_and, Bool.true_and, Bool.or_false, Bool.false_or, Bool.and_false, Bool.and_true, h1, h2, this]
  have h1' : 1 ≤ p.length ∧ p.length ≤ 10 := by simp only [inB, decide_eq_true_eq] at h1; omega
  have h2' : t.length = p.length := by omega
  simp (disch := first | (simp only [go_sem, Bool.and_self, eq_self]; done) | omega | (simp only [List.length_cons, List.length_nil]; omega)) only [go_sem, ↓reduceIte, Nat.reduceEqDiff, Nat.reduceAdd, Nat.reduceMul, Nat.reduceSub, Int.reduceToNat, Nat.reduceBEq, List.size_toArray, List.length_cons, List.length_nil, Bool.false_and, Bool.true_and, Bool.or_false, Bool.false_or, Bool.and_false, Bool.and_true, h1, h2]
  refine WP_for 26 p.length (fun i st h => st 1 = .ptr 0 0 ∧ st 2 = .ptr 1 0 ∧ st 4 = I p.length ∧ st 24 = LLI p ∧ st 25 = I p.length ∧ h.nx = 2 ∧ h.bl 0 = some (.cells false false [LLI p, LLI t]) ∧ h.bl 1 = some (.cells false false [.nil, .nil, I 0]) ∧ ∀ j, j < i → rowB p t j = true) (by simp (disch := first | (simp only [go_sem, Bool.and_self, eq_self]; done) | omega | (simp only [List.length_cons, List.length_nil]; omega)) only [go_sem, ↓reduceIte, Nat.reduceEqDiff, Nat.reduceAdd, Nat.reduceMul, Nat.reduceSub, Int.reduceToNat, Nat.reduceBEq, List.size_toArray, List.length_cons, List.length_nil, Bool.false_and, Bool.true_and, Bool.or_false, Bool.false_or, Bool.and_false, Bool.and_true]) ⟨by simp (disch := first | (simp only [go_sem, Bool.and_self, eq_self]; done) | omega | (simp only [List.length_cons, List.length_nil]; omega)) only [go_sem, ↓reduceIte, Nat.reduceEqDiff, Nat.reduceAdd, Nat.reduceMul, Nat.reduceSub, Int.reduceToNat, Nat.reduceBEq, List.size_toArray, List.length_cons, List.length_nil, Bool.false_and, Bool.true_and, Bool.or_false, Bool.false_or, Bool.and_false, Bool.and_true], by simp (disch := first | (simp only [go_sem, Bool.and_self, eq_self]; done) | omega | (simp only [List.length_cons, List.length_nil]; omega)) only [go_sem, ↓reduceIte, Nat.reduceEqDiff, Nat.reduceAdd, Nat.reduceMul, Nat.reduceSub, Int.reduceToNat, Nat.reduceBEq, List.size_toArray, List.length_cons, List.length_nil, Bool.false_and, Bool.true_and, Bool.or_false, Bool.false_or, Bool.and_false, Bool.and_true], by simp (disch := first | (simp only [go_sem, Bool.and_self, eq_self]; done) | omega | (simp only [List.length_cons, List.length_nil]; omega)) only [go_sem, ↓reduceIte, Nat.reduceEqDiff, Nat.reduceAdd, Nat.reduceMul, Nat.reduceSub, Int.reduceToNat, Nat.reduceBEq, List.size_toArray, List.length_cons, List.length_nil, Bool.false_and, Bool.true_and, Bool.or_false, Bool.false_or, Bool.and_false, Bool.and_true], by simp (disch := first | (simp only [go_sem, Bool.and_self, eq_self]; done) | omega | (simp only [List.length_cons, List.length_nil]; omega)) only [go_sem, ↓reduceIte, Nat.reduceEqDiff, Nat.reduceAdd, Nat.reduceMul, Nat.reduceSub, Int.reduceToNat, Nat.reduceBEq, List.size_toArray, List.length_cons, List.length_nil, Bool.false_and, Bool.true_and, Bool.or_false, Bool.false_or, Bool.and_false, Bool.and_true], by simp (disch := first | (simp only [go_sem, Bool.and_self, eq_self]; done) | omega | (simp only [List.length_cons, List.length_nil]; omega)) only [go_sem, ↓reduceIte, Nat.reduceEqDiff, Nat.reduceAdd, Nat.reduceMul, Nat.reduceSub, Int.reduceToNat, Nat.reduceBEq, List.size_toArray, List.length_cons, List.length_nil, Bool.false_and, Bool.true_and, Bool.or_false, Bool.false_or, Bool.and_false, Bool.and_true], by simp (disch := first | (simp only [go_sem, Bool.and_self, eq_self]; done) | omega | (simp only [List.length_cons, List.length_nil]; omega)) only [go_sem, ↓reduceIte, Nat.reduceEqDiff, Nat.reduceAdd, Nat.reduceMul, Nat.reduceSub, Int.reduceToNat, Nat.reduceBEq, List.size_toArray, List.length_cons, List.length_nil, Bool.false_and, Bool.true_and, Bool.or_false, Bool.false_or, Bool.and_false, Bool.and_true], by simp (disch := first | (simp only [go_sem, Bool.and_self, eq_self]; done) | omega | (simp only [List.length_cons, List.length_nil]; omega)) only [go_sem, ↓reduceIte, Nat.reduceEqDiff, Nat.reduceAdd, Nat.reduceMul, Nat.reduceSub, Int.reduceToNat, Nat.reduceBEq, List.size_toArray, List.length_cons, List.length_nil, Bool.false_and, Bool.true_and, Bool.or_false, Bool.false_or, Bool.and_false, Bool.and_true], by simp (disch := first | (simp only [go_sem, Bool.and_self, eq_self]; done) | omega | (simp only [List.length_cons, List.length_nil]; omega)) only [go_sem, ↓reduceIte, Nat.reduceEqDiff, Nat.reduceAdd, Nat.reduceMul, Nat.reduceSub, Int.reduceToNat, Nat.reduceBEq, List.size_toArray, List.length_cons, List.length_nil, Bool.false_and, Bool.true_and, Bool.or_false, Bool.false_or, Bool.and_false, Bool.and_true], by omega⟩ ?_
  rintro i st h hi s26 ⟨s1, s2, s4, s24, s25, bn, b0, b1, hn⟩
  by_cases hlt : i < p.length
  case neg =>
    have : netR p t = .tup [.agg [LLI p, LLI t, I p.length], I 0] := by
      simp only [netR, netB, h1, decide_eq_true h2', all_range (f := rowB p t) (n := p.length) fun j hj => hn j (by omega), Bool.and_true, if_true]
    simp (disch := first | (simp only [go_sem, Bool.and_self, eq_self]; done) | omega | (simp only [List.length_cons, List.length_nil]; omega)) only [go_sem, ↓reduceIte, Nat.reduceEqDiff, Nat.reduceAdd, Nat.reduceMul, Nat.reduceSub, Int.reduceToNat, Nat.reduceBEq, List.size_toArray, List.length_cons, List.length_nil, Bool.false_and, Bool.true_and, Bool.or_false, Bool.false_or, Bool.and_false, Bool.and_true, s1, s2, s4, s24, s25, s26, bn, b0, b1, hlt, this]
  have hlt2 : i < t.length := by omega
  have hrl : (nth p i).length ≤ maxLen := hp.2 _ (nth_mem hlt)
  have hrt : (nth t i).length ≤ maxLen := ht.2 _ (nth_mem hlt2)
  by_cases h3 : (3 : Int) < (nth p i).length
  · have q := netB_row hlt (t := t) (by simp only [rowB, decide_eq_false (show ¬ (nth p i).length ≤ 3 by omega), Bool.false_and])
    simp (disch := first | (simp only [go_sem, Bool.and_self, eq_self]; done) | omega | (simp only [List.length_cons, List.length_nil]; omega)) only [go_sem, ↓reduceIte, Nat.reduceEqDiff, Nat.reduceAdd, Nat.reduceMul, Nat.reduceSub, Int.reduceToNat, Nat.reduceBEq, List.size_toArray, List.length_cons, List.length_nil, Bool.false_and, Bool.true_and, Bool.or_false, Bool.false_or, Bool.and_false, Bool.and_true, s1, s2, s4, s24, s25, s26, bn, b0, b1, hlt, h3, q]
  have e1 := fun t => shl_one (P := Try.prog) t (nth p i).length (by omega)
  by_cases h4 : ((nth t i).length : Int) = ((2 ^ (nth p i).length : Nat) : Int)
  case neg =>
    have q := netB_row hlt (t := t) (by simp only [rowB, decide_eq_false (show ¬ (nth t i).length = 2 ^ (nth p i).length by omega), Bool.and_false, Bool.false_and])
    simp (disch := first | (simp only [go_sem, Bool.and_self, eq_self]; done) | omega | (simp only [List.length_cons, List.length_nil]; omega)) only [go_sem, ↓reduceIte, Nat.reduceEqDiff, Nat.reduceAdd, Nat.reduceMul, Nat.reduceSub, Int.reduceToNat, Nat.reduceBEq, List.size_toArray, List.length_cons, List.length_nil, Bool.false_and, Bool.true_and, Bool.or_false, Bool.false_or, Bool.and_false, Bool.and_true, s1, s2, s4, s24, s25, s26, bn, b0, b1, hlt, hlt2, h3, e1, h4, q]
  simp (disch := first | (simp only [go_sem, Bool.and_self, eq_self]; done) | omega | (simp only [List.length_cons, List.length_nil]; omega)) only [go_sem, ↓reduceIte, Nat.reduceEqDiff, Nat.reduceAdd, Nat.reduceMul, Nat.reduceSub, Int.reduceToNat, Nat.reduceBEq, List.size_toArray, List.length_cons, List.length_nil, Bool.false_and, Bool.true_and, Bool.or_false, Bool.false_or, Bool.and_false, Bool.and_true, s1, s2, s4, s24, s25, s26, bn, b0, b1, hlt, hlt2, h3, e1, h4]
  refine WP_cut (fun st h => st 1 = .ptr 0 0 ∧ st 2 = .ptr 1 0 ∧ st 4 = I p.length ∧ st 24 = LLI p ∧ st 25 = I p.length ∧ st 5 = I i ∧ st 6 = LI (nth p i) ∧ st 26 = I i ∧ h.nx = 2 ∧ h.bl 0 = some (.cells false false [LLI p, LLI t]) ∧ h.bl 1 = some (.cells false false [.nil, .nil, I 0]) ∧ ∀ j, j < (nth p i).length → parB (nth p i) i j = true) ?_ ?_
  · refine WP_for 49 (nth p i).length (fun k st h => st 1 = .ptr 0 0 ∧ st 2 = .ptr 1 0 ∧ st 4 = I p.length ∧ st 24 = LLI p ∧ st 25 = I p.length ∧ st 5 = I i ∧ st 6 = LI (nth p i) ∧ st 26 = I i ∧ st 47 = LI (nth p i) ∧ st 48 = I (nth p i).length ∧ h.nx = 2 ∧ h.bl 0 = some (.cells false false [LLI p, LLI t]) ∧ h.bl 1 = some (.cells false false [.nil, .nil, I 0]) ∧ ∀ j, j < k → parB (nth p i) i j = true) (by simp (disch := first | (simp only [go_sem, Bool.and_self, eq_self]; done) | omega | (simp only [List.length_cons, List.length_nil]; omega)) only [go_sem, ↓reduceIte, Nat.reduceEqDiff, Nat.reduceAdd, Nat.reduceMul, Nat.reduceSub, Int.reduceToNat, Nat.reduceBEq, List.size_toArray, List.length_cons, List.length_nil, Bool.false_and, Bool.true_and, Bool.or_false, Bool.false_or, Bool.and_false, Bool.and_true]) ⟨by simp (disch := first | (simp only [go_sem, Bool.and_self, eq_self]; done) | omega | (simp only [List.length_cons, List.length_nil]; omega)) only [go_sem, ↓reduceIte, Nat.reduceEqDiff, Nat.reduceAdd, Nat.reduceMul, Nat.reduceSub, Int.reduceToNat, Nat.reduceBEq, List.size_toArray, List.length_cons, List.length_nil, Bool.false_and, Bool.true_and, Bool.or_false, Bool.false_or, Bool.and_false, Bool.and_true, s1, s2, s4, s24, s25, s26, hlt], by simp (disch := first | (simp only [go_sem, Bool.and_self, eq_self]; done) | omega | (simp only [List.length_cons, List.length_nil]; omega)) only [go_sem, ↓reduceIte, Nat.reduceEqDiff, Nat.reduceAdd, Nat.reduceMul, Nat.reduceSub, Int.reduceToNat, Nat.reduceBEq, List.size_toArray, List.length_cons, List.length_nil, Bool.false_and, Bool.true_and, Bool.or_false, Bool.false_or, Bool.and_false, Bool.and_true, s1, s2, s4, s24, s25, s26, hlt], by simp (disch := first | (simp only [go_sem, Bool.and_self, eq_self]; done) | omega | (simp only [List.length_cons, List.length_nil]; omega)) only [go_sem, ↓reduceIte, Nat.reduceEqDiff, Nat.reduceAdd, Nat.reduceMul, Nat.reduceSub, Int.reduceToNat, Nat.reduceBEq, List.size_toArray, List.length_cons, List.length_nil, Bool.false_and, Bool.true_and, Bool.or_false, Bool.false_or, Bool.and_false, Bool.and_true, s1, s2, s4, s24, s25, s26, hlt], by simp (disch := first | (simp only [go_sem, Bool.and_self, eq_self]; done) | omega | (simp only [List.length_cons, List.length_nil]; omega)) only [go_sem, ↓reduceIte, Nat.reduceEqDiff, Nat.reduceAdd, Nat.reduceMul, Nat.reduceSub, Int.reduceToNat, Nat.reduceBEq, List.size_toArray, List.length_cons, List.length_nil, Bool.false_and, Bool.true_and, Bool.or_false, Bool.false_or, Bool.and_false, Bool.and_true, s1, s2, s4, s24, s25, s26, hlt], by simp (disch := first | (simp only [go_sem, Bool.and_self, eq_self]; done) | omega | (simp only [List.length_cons, List.length_nil]; omega)) only [go_sem, ↓reduceIte, Nat.reduceEqDiff, Nat.reduceAdd, Nat.reduceMul, Nat.reduceSub, Int.reduceToNat, Nat.reduceBEq, List.size_toArray, List.length_cons, List.length_nil, Bool.false_and, Bool.true_and, Bool.or_false, Bool.false_or, Bool.and_false, Bool.and_true, s1, s2, s4, s24, s25, s26, hlt], by simp (disch := first | (simp only [go_sem, Bool.and_self, eq_self]; done) | omega | (simp only [List.length_cons, List.length_nil]; omega)) only [go_sem, ↓reduceIte, Nat.reduceEqDiff, Nat.reduceAdd, Nat.reduceMul, Nat.reduceSub, Int.reduceToNat, Nat.reduceBEq, List.size_toArray, List.length_cons, List.length_nil, Bool.false_and, Bool.true_and, Bool.or_false, Bool.false_or, Bool.and_false, Bool.and_true, s1, s2, s4, s24, s25, s26, hlt], by simp (disch := first | (simp only [go_sem, Bool.and_self, eq_self]; done) | omega | (simp only [List.length_cons, List.length_nil]; omega)) only [go_sem, ↓reduceIte, Nat.reduceEqDiff, Nat.reduceAdd, Nat.reduceMul, Nat.reduceSub, Int.reduceToNat, Nat.reduceBEq, List.size_toArray, List.length_cons, List.length_nil, Bool.false_and, Bool.true_and, Bool.or_false, Bool.false_or, Bool.and_false, Bool.and_true, s1, s2, s4, s24, s25, s26, hlt], by simp (disch := first | (simp only [go_sem, Bool.and_self, eq_self]; done) | omega | (simp only [List.length_cons, List.length_nil]; omega)) only [go_sem, ↓reduceIte, Nat.reduceEqDiff, Nat.reduceAdd, Nat.reduceMul, Nat.reduceSub, Int.reduceToNat, Nat.reduceBEq, List.size_toArray, List.length_cons, List.length_nil, Bool.false_and, Bool.true_and, Bool.or_false, Bool.false_or, Bool.and_false, Bool.and_true, s1, s2, s4, s24, s25, s26, hlt], by simp (disch := first | (simp only [go_sem, Bool.and_self, eq_self]; done) | omega | (simp only [List.length_cons, List.length_nil]; omega)) only [go_sem, ↓reduceIte, Nat.reduceEqDiff, Nat.reduceAdd, Nat.reduceMul, Nat.reduceSub, Int.reduceToNat, Nat.reduceBEq, List.size_toArray, List.length_cons, List.length_nil, Bool.false_and, Bool.true_and, Bool.or_false, Bool.false_or, Bool.and_false, Bool.and_true, s1, s2, s4, s24, s25], by simp (disch := first | (simp only [go_sem, Bool.and_self, eq_self]; done) | omega | (simp only [List.length_cons, List.length_nil]; omega)) only [go_sem, ↓reduceIte, Nat.reduceEqDiff, Nat.reduceAdd, Nat.reduceMul, Nat.reduceSub, Int.reduceToNat, Nat.reduceBEq, List.size_toArray, List.length_cons, List.length_nil, Bool.false_and, Bool.true_and, Bool.or_false, Bool.false_or, Bool.and_false, Bool.and_true, s1, s2, s4, s24, s25], by simp (disch := first | (simp only [go_sem, Bool.and_self, eq_self]; done) | omega | (simp only [List.length_cons, List.length_nil]; omega)) only [go_sem, ↓reduceIte, Nat.reduceEqDiff, Nat.reduceAdd, Nat.reduceMul, Nat.reduceSub, Int.reduceToNat, Nat.reduceBEq, List.size_toArray, List.length_cons, List.length_nil, Bool.false_and, Bool.true_and, Bool.or_false, Bool.false_or, Bool.and_false, Bool.and_true, bn], by simp (disch := first | (simp only [go_sem, Bool.and_self, eq_self]; done) | omega | (simp only [List.length_cons, List.length_nil]; omega)) only [go_sem, ↓reduceIte, Nat.reduceEqDiff, Nat.reduceAdd, Nat.reduceMul, Nat.reduceSub, Int.reduceToNat, Nat.reduceBEq, List.size_toArray, List.length_cons, List.length_nil, Bool.false_and, Bool.true_and, Bool.or_false, Bool.false_or, Bool.and_false, Bool.and_true, b0], by simp (disch := first | (simp only [go_sem, Bool.and_self, eq_self]; done) | omega | (simp only [List.length_cons, List.length_nil]; omega)) only [go_sem, ↓reduceIte, Nat.reduceEqDiff, Nat.reduceAdd, Nat.reduceMul, Nat.reduceSub, Int.reduceToNat, Nat.reduceBEq, List.size_toArray, List.length_cons, List.length_nil, Bool.false_and, Bool.true_and, Bool.or_false, Bool.false_or, Bool.and_false, Bool.and_true, b1], by omega⟩ ?_
    rintro k st h hk s49 ⟨s1, s2, s4, s24, s25, s5, s6, s26, s47, s48, bn, b0, b1, hm⟩
    by_cases hkl : k < (nth p i).length
    case neg =>
      simp (disch := first | (simp only [go_sem, Bool.and_self, eq_self]; done) | omega | (simp only [List.length_cons, List.length_nil]; omega)) only [go_sem, ↓reduceIte, Nat.reduceEqDiff, Nat.reduceAdd, Nat.reduceMul, Nat.reduceSub, Int.reduceToNat, Nat.reduceBEq, List.size_toArray, List.length_cons, List.length_nil, Bool.false_and, Bool.true_and, Bool.or_false, Bool.false_or, Bool.and_false, Bool.and_true, s1, s2, s4, s24, s25, s5, s6, s26, s47, s48, s49, bn, b0, b1, hkl]
      exact fun j hj => hm j (by omega)
    have bad : parB (nth p i) i k = false → netR p t = .tup [.agg [.nil, .nil, I 0], I 2] := fun hb =>
      netB_row hlt (t := t) (by simp only [rowB, not_all_range hkl hb, Bool.and_false, Bool.false_and])
    cases h5 : inB (nth (nth p i) k) 0 ((i : Int) - 1) with
    | false =>
      have q := bad (by simp only [parB, h5, Bool.false_and])
      simp (disch := first | (simp only [go_sem, Bool.and_self, eq_self]; done) | omega | (simp only [List.length_cons, List.length_nil]; omega)) only [go_sem, ↓reduceIte, Nat.reduceEqDiff, Nat.reduceAdd, Nat.reduceMul, Nat.reduceSub, Int.reduceToNat, Nat.reduceBEq, List.size_toArray, List.length_cons, List.length_nil, Bool.false_and, Bool.true_and, Bool.or_false, Bool.false_or, Bool.and_false, Bool.and_true, s1, s2, s4, s24, s25, s5, s6, s26, s47, s48, s49, bn, b0, b1, hkl, h5, q]
    | true =>
    by_cases h6 : (0 : Int) < k
    case neg =>
      have hk0 : k = 0 := by omega
      subst hk0
      simp (disch := first | (simp only [go_sem, Bool.and_self, eq_self]; done) | omega | (simp only [List.length_cons, List.length_nil]; omega)) only [go_sem, ↓reduceIte, Nat.reduceEqDiff, Nat.reduceAdd, Nat.reduceMul, Nat.reduceSub, Int.reduceToNat, Nat.reduceBEq, List.size_toArray, List.length_cons, List.length_nil, Bool.false_and, Bool.true_and, Bool.or_false, Bool.false_or, Bool.and_false, Bool.and_true, s1, s2, s4, s24, s25, s5, s6, s26, s47, s48, s49, bn, b0, b1, hkl, h5, h6]
      rw [ForK_normal]
      refine ⟨hkl, by simp (disch := first | (simp only [go_sem, Bool.and_self, eq_self]; done) | omega | (simp only [List.length_cons, List.length_nil]; omega)) only [go_sem, ↓reduceIte, Nat.reduceEqDiff, Nat.reduceAdd, Nat.reduceMul, Nat.reduceSub, Int.reduceToNat, Nat.reduceBEq, List.size_toArray, List.length_cons, List.length_nil, Bool.false_and, Bool.true_and, Bool.or_false, Bool.false_or, Bool.and_false, Bool.and_true, s49], by simp (disch := first | (simp only [go_sem, Bool.and_self, eq_self]; done) | omega | (simp only [List.length_cons, List.length_nil]; omega)) only [go_sem, ↓reduceIte, Nat.reduceEqDiff, Nat.reduceAdd, Nat.reduceMul, Nat.reduceSub, Int.reduceToNat, Nat.reduceBEq, List.size_toArray, List.length_cons, List.length_nil, Bool.false_and, Bool.true_and, Bool.or_false, Bool.false_or, Bool.and_false, Bool.and_true, s1], by simp (disch := first | (simp only [go_sem, Bool.and_self, eq_self]; done) | omega | (simp only [List.length_cons, List.length_nil]; omega)) only [go_sem, ↓reduceIte, Nat.reduceEqDiff, Nat.reduceAdd, Nat.reduceMul, Nat.reduceSub, Int.reduceToNat, Nat.reduceBEq, List.size_toArray, List.length_cons, List.length_nil, Bool.false_and, Bool.true_and, Bool.or_false, Bool.false_or, Bool.and_false, Bool.and_true, s2], by simp (disch := first | (simp only [go_sem, Bool.and_self, eq_self]; done) | omega | (simp only [List.length_cons, List.length_nil]; omega)) only [go_sem, ↓reduceIte, Nat.reduceEqDiff, Nat.reduceAdd, Nat.reduceMul, Nat.reduceSub, Int.reduceToNat, Nat.reduceBEq, List.size_toArray, List.length_cons, List.length_nil, Bool.false_and, Bool.true_and, Bool.or_false, Bool.false_or, Bool.and_false, Bool.and_true, s4], by simp (disch := first | (simp only [go_sem, Bool.and_self, eq_self]; done) | omega | (simp only [List.length_cons, List.length_nil]; omega)) only [go_sem, ↓reduceIte, Nat.reduceEqDiff, Nat.reduceAdd, Nat.reduceMul, Nat.reduceSub, Int.reduceToNat, Nat.reduceBEq, List.size_toArray, List.length_cons, List.length_nil, Bool.false_and, Bool.true_and, Bool.or_false, Bool.false_or, Bool.and_false, Bool.and_true, s24], by simp (disch := first | (simp only [go_sem, Bool.and_self, eq_self]; done) | omega | (simp only [List.length_cons, List.length_nil]; omega)) only [go_sem, ↓reduceIte, Nat.reduceEqDiff, Nat.reduceAdd, Nat.reduceMul, Nat.reduceSub, Int.reduceToNat, Nat.reduceBEq, List.size_toArray, List.length_cons, List.length_nil, Bool.false_and, Bool.true_and, Bool.or_false, Bool.false_or, Bool.and_false, Bool.and_true, s25], by simp (disch := first | (simp only [go_sem, Bool.and_self, eq_self]; done) | omega | (simp only [List.length_cons, List.length_nil]; omega)) only [go_sem, ↓reduceIte, Nat.reduceEqDiff, Nat.reduceAdd, Nat.reduceMul, Nat.reduceSub, Int.reduceToNat, Nat.reduceBEq, List.size_toArray, List.length_cons, List.length_nil, Bool.false_and, Bool.true_and, Bool.or_false, Bool.false_or, Bool.and_false, Bool.and_true, s5], by simp (disch := first | (simp only [go_sem, Bool.and_self, eq_self]; done) | omega | (simp only [List.length_cons, List.length_nil]; omega)) only [go_sem, ↓reduceIte, Nat.reduceEqDiff, Nat.reduceAdd, Nat.reduceMul, Nat.reduceSub, Int.reduceToNat, Nat.reduceBEq, List.size_toArray, List.length_cons, List.length_nil, Bool.false_and, Bool.true_and, Bool.or_false, Bool.false_or, Bool.and_false, Bool.and_true, s6], by simp (disch := first | (simp only [go_sem, Bool.and_self, eq_self]; done) | omega | (simp only [List.length_cons, List.length_nil]; omega)) only [go_sem, ↓reduceIte, Nat.reduceEqDiff, Nat.reduceAdd, Nat.reduceMul, Nat.reduceSub, Int.reduceToNat, Nat.reduceBEq, List.size_toArray, List.length_cons, List.length_nil, Bool.false_and, Bool.true_and, Bool.or_false, Bool.false_or, Bool.and_false, Bool.and_true, s26], by simp (disch := first | (simp only [go_sem, Bool.and_self, eq_self]; done) | omega | (simp only [List.length_cons, List.length_nil]; omega)) only [go_sem, ↓reduceIte, Nat.reduceEqDiff, Nat.reduceAdd, Nat.reduceMul, Nat.reduceSub, Int.reduceToNat, Nat.reduceBEq, List.size_toArray, List.length_cons, List.length_nil, Bool.false_and, Bool.true_and, Bool.or_false, Bool.false_or, Bool.and_false, Bool.and_true, s47], by simp (disch := first | (simp only [go_sem, Bool.and_self, eq_self]; done) | omega | (simp only [List.length_cons, List.length_nil]; omega)) only [go_sem, ↓reduceIte, Nat.reduceEqDiff, Nat.reduceAdd, Nat.reduceMul, Nat.reduceSub, Int.reduceToNat, Nat.reduceBEq, List.size_toArray, List.length_cons, List.length_nil, Bool.false_and, Bool.true_and, Bool.or_false, Bool.false_or, Bool.and_false, Bool.and_true, s48], by simp (disch := first | (simp only [go_sem, Bool.and_self, eq_self]; done) | omega | (simp only [List.length_cons, List.length_nil]; omega)) only [go_sem, ↓reduceIte, Nat.reduceEqDiff, Nat.reduceAdd, Nat.reduceMul, Nat.reduceSub, Int.reduceToNat, Nat.reduceBEq, List.size_toArray, List.length_cons, List.length_nil, Bool.false_and, Bool.true_and, Bool.or_false, Bool.false_or, Bool.and_false, Bool.and_true, bn], by simp (disch := first | (simp only [go_sem, Bool.and_self, eq_self]; done) | omega | (simp only [List.length_cons, List.length_nil]; omega)) only [go_sem, ↓reduceIte, Nat.reduceEqDiff, Nat.reduceAdd, Nat.reduceMul, Nat.reduceSub, Int.reduceToNat, Nat.reduceBEq, List.size_toArray, List.length_cons, List.length_nil, Bool.false_and, Bool.true_and, Bool.or_false, Bool.false_or, Bool.and_false, Bool.and_true, b0], by simp (disch := first | (simp only [go_sem, Bool.and_self, eq_self]; done) | omega | (simp only [List.length_cons, List.length_nil]; omega)) only [go_sem, ↓reduceIte, Nat.reduceEqDiff, Nat.reduceAdd, Nat.reduceMul, Nat.reduceSub, Int.reduceToNat, Nat.reduceBEq, List.size_toArray, List.length_cons, List.length_nil, Bool.false_and, Bool.true_and, Bool.or_false, Bool.false_or, Bool.and_false, Bool.and_true, b1], fun j hj => ?_⟩
      rw [show j = 0 by omega]
      simp only [parB, h5, beq_self_eq_true, Bool.true_or, Bool.and_self]
    have hk1 : ((k : Int) - 1).toNat = k - 1 := by omega
    by_cases h7 : nth (nth p i) k ≤ nth (nth p i) (k - 1)
    · have q := bad (by simp only [parB, decide_eq_false (show ¬ nth (nth p i) (k - 1) < nth (nth p i) k by omega), show (k == 0) = false by simp; omega, Bool.or_false, Bool.and_false])
      simp (disch := first | (simp only [go_sem, Bool.and_self, eq_self]; done) | omega | (simp only [List.length_cons, List.length_nil]; omega)) only [go_sem, ↓reduceIte, Nat.reduceEqDiff, Nat.reduceAdd, Nat.reduceMul, Nat.reduceSub, Int.reduceToNat, Nat.reduceBEq, List.size_toArray, List.length_cons, List.length_nil, Bool.false_and, Bool.true_and, Bool.or_false, Bool.false_or, Bool.and_false, Bool.and_true, s1, s2, s4, s24, s25, s5, s6, s26, s47, s48, s49, bn, b0, b1, hkl, h5, h6, hk1, h7, q]
    simp (disch := first | (simp only [go_sem, Bool.and_self, eq_self]; done) | omega | (simp only [List.length_cons, List.length_nil]; omega)) only [go_sem, ↓reduceIte, Nat.reduceEqDiff, Nat.reduceAdd, Nat.reduceMul, Nat.reduceSub, Int.reduceToNat, Nat.reduceBEq, List.size_toArray, List.length_cons, List.length_nil, Bool.false_and, Bool.true_and, Bool.or_false, Bool.false_or, Bool.and_false, Bool.and_true, s1, s2, s4, s24, s25, s5, s6, s26, s47, s48, s49, bn, b0, b1, hkl, h5, h6, hk1, h7]
    rw [ForK_normal]
    refine ⟨hkl, by simp (disch := first | (simp only [go_sem, Bool.and_self, eq_self]; done) | omega | (simp only [List.length_cons, List.length_nil]; omega)) only [go_sem, ↓reduceIte, Nat.reduceEqDiff, Nat.reduceAdd, Nat.reduceMul, Nat.reduceSub, Int.reduceToNat, Nat.reduceBEq, List.size_toArray, List.length_cons, List.length_nil, Bool.false_and, Bool.true_and, Bool.or_false, Bool.false_or, Bool.and_false, Bool.and_true, s49], by simp (disch := first | (simp only [go_sem, Bool.and_self, eq_self]; done) | omega | (simp only [List.length_cons, List.length_nil]; omega)) only [go_sem, ↓reduceIte, Nat.reduceEqDiff, Nat.reduceAdd, Nat.reduceMul, Nat.reduceSub, Int.reduceToNat, Nat.reduceBEq, List.size_toArray, List.length_cons, List.length_nil, Bool.false_and, Bool.true_and, Bool.or_false, Bool.false_or, Bool.and_false, Bool.and_true, s1], by simp (disch := first | (simp only [go_sem, Bool.and_self, eq_self]; done) | omega | (simp only [List.length_cons, List.length_nil]; omega)) only [go_sem, ↓reduceIte, Nat.reduceEqDiff, Nat.reduceAdd, Nat.reduceMul, Nat.reduceSub, Int.reduceToNat, Nat.reduceBEq, List.size_toArray, List.length_cons, List.length_nil, Bool.false_and, Bool.true_and, Bool.or_false, Bool.false_or, Bool.and_false, Bool.and_true, s2], by simp (disch := first | (simp only [go_sem, Bool.and_self, eq_self]; done) | omega | (simp only [List.length_cons, List.length_nil]; omega)) only [go_sem, ↓reduceIte, Nat.reduceEqDiff, Nat.reduceAdd, Nat.reduceMul, Nat.reduceSub, Int.reduceToNat, Nat.reduceBEq, List.size_toArray, List.length_cons, List.length_nil, Bool.false_and, Bool.true_and, Bool.or_false, Bool.false_or, Bool.and_false, Bool.and_true, s4], by simp (disch := first | (simp only [go_sem, Bool.and_self, eq_self]; done) | omega | (simp only [List.length_cons, List.length_nil]; omega)) only [go_sem, ↓reduceIte, Nat.reduceEqDiff, Nat.reduceAdd, Nat.reduceMul, Nat.reduceSub, Int.reduceToNat, Nat.reduceBEq, List.size_toArray, List.length_cons, List.length_nil, Bool.false_and, Bool.true_and, Bool.or_false, Bool.false_or, Bool.and_false, Bool.and_true, s24], by simp (disch := first | (simp only [go_sem, Bool.and_self, eq_self]; done) | omega | (simp only [List.length_cons, List.length_nil]; omega)) only [go_sem, ↓reduceIte, Nat.reduceEqDiff, Nat.reduceAdd, Nat.reduceMul, Nat.reduceSub, Int.reduceToNat, Nat.reduceBEq, List.size_toArray, List.length_cons, List.length_nil, Bool.false_and, Bool.true_and, Bool.or_false, Bool.false_or, Bool.and_false, Bool.and_true, s25], by simp (disch := first | (simp only [go_sem, Bool.and_self, eq_self]; done) | omega | (simp only [List.length_cons, List.length_nil]; omega)) only [go_sem, ↓reduceIte, Nat.reduceEqDiff, Nat.reduceAdd, Nat.reduceMul, Nat.reduceSub, Int.reduceToNat, Nat.reduceBEq, List.size_toArray, List.length_cons, List.length_nil, Bool.false_and, Bool.true_and, Bool.or_false, Bool.false_or, Bool.and_false, Bool.and_true, s5], by simp (disch := first | (simp only [go_sem, Bool.and_self, eq_self]; done) | omega | (simp only [List.length_cons, List.length_nil]; omega)) only [go_sem, ↓reduceIte, Nat.reduceEqDiff, Nat.reduceAdd, Nat.reduceMul, Nat.reduceSub, Int.reduceToNat, Nat.reduceBEq, List.size_toArray, List.length_cons, List.length_nil, Bool.false_and, Bool.true_and, Bool.or_false, Bool.false_or, Bool.and_false, Bool.and_true, s6], by simp (disch := first | (simp only [go_sem, Bool.and_self, eq_self]; done) | omega | (simp only [List.length_cons, List.length_nil]; omega)) only [go_sem, ↓reduceIte, Nat.reduceEqDiff, Nat.reduceAdd, Nat.reduceMul, Nat.reduceSub, Int.reduceToNat, Nat.reduceBEq, List.size_toArray, List.length_cons, List.length_nil, Bool.false_and, Bool.true_and, Bool.or_false, Bool.false_or, Bool.and_false, Bool.and_true, s26], by simp (disch := first | (simp only [go_sem, Bool.and_self, eq_self]; done) | omega | (simp only [List.length_cons, List.length_nil]; omega)) only [go_sem, ↓reduceIte, Nat.reduceEqDiff, Nat.reduceAdd, Nat.reduceMul, Nat.reduceSub, Int.reduceToNat, Nat.reduceBEq, List.size_toArray, List.length_cons, List.length_nil, Bool.false_and, Bool.true_and, Bool.or_false, Bool.false_or, Bool.and_false, Bool.and_true, s47], by simp (disch := first | (simp only [go_sem, Bool.and_self, eq_self]; done) | omega | (simp only [List.length_cons, List.length_nil]; omega)) only [go_sem, ↓reduceIte, Nat.reduceEqDiff, Nat.reduceAdd, Nat.reduceMul, Nat.reduceSub, Int.reduceToNat, Nat.reduceBEq, List.size_toArray, List.length_cons, List.length_nil, Bool.false_and, Bool.true_and, Bool.or_false, Bool.false_or, Bool.and_false, Bool.and_true, s48], by simp (disch := first | (simp only [go_sem, Bool.and_self, eq_self]; done) | omega | (simp only [List.length_cons, List.length_nil]; omega)) only [go_sem, ↓reduceIte, Nat.reduceEqDiff, Nat.reduceAdd, Nat.reduceMul, Nat.reduceSub, Int.reduceToNat, Nat.reduceBEq, List.size_toArray, List.length_cons, List.length_nil, Bool.false_and, Bool.true_and, Bool.or_false, Bool.false_or, Bool.and_false, Bool.and_true, bn], by simp (disch := first | (simp only [go_sem, Bool.and_self, eq_self]; done) | omega | (simp only [List.length_cons, List.length_nil]; omega)) only [go_sem, ↓reduceIte, Nat.reduceEqDiff, Nat.reduceAdd, Nat.reduceMul, Nat.reduceSub, Int.reduceToNat, Nat.reduceBEq, List.size_toArray, List.length_cons, List.length_nil, Bool.false_and, Bool.true_and, Bool.or_false, Bool.false_or, Bool.and_false, Bool.and_true, b0], by simp (disch := first | (simp only [go_sem, Bool.and_self, eq_self]; done) | omega | (simp only [List.length_cons, List.length_nil]; omega)) only [go_sem, ↓reduceIte, Nat.reduceEqDiff, Nat.reduceAdd, Nat.reduceMul, Nat.reduceSub, Int.reduceToNat, Nat.reduceBEq, List.size_toArray, List.length_cons, List.length_nil, Bool.false_and, Bool.true_and, Bool.or_false, Bool.false_or, Bool.and_false, Bool.and_true, b1], fun j hj => ?_⟩
    rcases Nat.lt_or_ge j k with h | h
    · exact hm j h
    · rw [show j = k by omega]
      simp only [parB, h5, decide_eq_true (show nth (nth p i) (k - 1) < nth (nth p i) k by omega), Bool.or_true, Bool.and_self]
  · rintro st h ⟨s1, s2, s4, s24, s25, s5, s6, s26, bn, b0, b1, hpar⟩
    have hsf : ∀ h : Hp, sealA h (.fn 41 []) = some (.fn 41 [], h) := fun _ => rfl
    have kk := fun h h' K => k47 (h := h) (h' := h') (K := K) (nth t i) hrt
    cases h8 : (nth t i).any (fun x => !inB x 0 16) with
    | true =>
      have q := netB_row hlt (t := t) (by simp only [rowB, h8, Bool.not_true, Bool.and_false])
      simp (disch := first | (simp only [go_sem, Bool.and_self, eq_self]; done) | omega | (simp only [List.length_cons, List.length_nil]; omega)) only [go_sem, ↓reduceIte, Nat.reduceEqDiff, Nat.reduceAdd, Nat.reduceMul, Nat.reduceSub, Int.reduceToNat, Nat.reduceBEq, List.size_toArray, List.length_cons, List.length_nil, Bool.false_and, Bool.true_and, Bool.or_false, Bool.false_or, Bool.and_false, Bool.and_true, s1, s2, s4, s24, s25, s5, s6, s26, bn, b0, b1, hlt, hlt2, kk, hsf, h8, q]
    | false =>
      simp (disch := first | (simp only [go_sem, Bool.and_self, eq_self]; done) | omega | (simp only [List.length_cons, List.length_nil]; omega)) only [go_sem, ↓reduceIte, Nat.reduceEqDiff, Nat.reduceAdd, Nat.reduceMul, Nat.reduceSub, Int.reduceToNat, Nat.reduceBEq, List.size_toArray, List.length_cons, List.length_nil, Bool.false_and, Bool.true_and, Bool.or_false, Bool.false_or, Bool.and_false, Bool.and_true, s1, s2, s4, s24, s25, s5, s6, s26, bn, b0, b1, hlt, hlt2, kk, hsf, h8]
      rw [ForK_normal]
      refine ⟨hlt, by simp (disch := first | (simp only [go_sem, Bool.and_self, eq_self]; done) | omega | (simp only [List.length_cons, List.length_nil]; omega)) only [go_sem, ↓reduceIte, Nat.reduceEqDiff, Nat.reduceAdd, Nat.reduceMul, Nat.reduceSub, Int.reduceToNat, Nat.reduceBEq, List.size_toArray, List.length_cons, List.length_nil, Bool.false_and, Bool.true_and, Bool.or_false, Bool.false_or, Bool.and_false, Bool.and_true, s1, s2, s4, s24, s25, s5, s6, s26], by simp (disch := first | (simp only [go_sem, Bool.and_self, eq_self]; done) | omega | (simp only [List.length_cons, List.length_nil]; omega)) only [go_sem, ↓reduceIte, Nat.reduceEqDiff, Nat.reduceAdd, Nat.reduceMul, Nat.reduceSub, Int.reduceToNat, Nat.reduceBEq, List.size_toArray, List.length_cons, List.length_nil, Bool.false_and, Bool.true_and, Bool.or_false, Bool.false_or, Bool.and_false, Bool.and_true, s1, s2, s4, s24, s25, s5, s6, s26], by simp (disch := first | (simp only [go_sem, Bool.and_self, eq_self]; done) | omega | (simp only [List.length_cons, List.length_nil]; omega)) only [go_sem, ↓reduceIte, Nat.reduceEqDiff, Nat.reduceAdd, Nat.reduceMul, Nat.reduceSub, Int.reduceToNat, Nat.reduceBEq, List.size_toArray, List.length_cons, List.length_nil, Bool.false_and, Bool.true_and, Bool.or_false, Bool.false_or, Bool.and_false, Bool.and_true, s1, s2, s4, s24, s25, s5, s6, s26], by simp (disch := first | (simp only [go_sem, Bool.and_self, eq_self]; done) | omega | (simp only [List.length_cons, List.length_nil]; omega)) only [go_sem, ↓reduceIte, Nat.reduceEqDiff, Nat.reduceAdd, Nat.reduceMul, Nat.reduceSub, Int.reduceToNat, Nat.reduceBEq, List.size_toArray, List.length_cons, List.length_nil, Bool.false_and, Bool.true_and, Bool.or_false, Bool.false_or, Bool.and_false, Bool.and_true, s1, s2, s4, s24, s25, s5, s6, s26], by simp (disch := first | (simp only [go_sem, Bool.and_self, eq_self]; done) | omega | (simp only [List.length_cons, List.length_nil]; omega)) only [go_sem, ↓reduceIte, Nat.reduceEqDiff, Nat.reduceAdd, Nat.reduceMul, Nat.reduceSub, Int.reduceToNat, Nat.reduceBEq, List.size_toArray, List.length_cons, List.length_nil, Bool.false_and, Bool.true_and, Bool.or_false, Bool.false_or, Bool.and_false, Bool.and_true, s1, s2, s4, s24, s25, s5, s6, s26], by simp (disch := first | (simp only [go_sem, Bool.and_self, eq_self]; done) | omega | (simp only [List.length_cons, List.length_nil]; omega)) only [go_sem, ↓reduceIte, Nat.reduceEqDiff, Nat.reduceAdd, Nat.reduceMul, Nat.reduceSub, Int.reduceToNat, Nat.reduceBEq, List.size_toArray, List.length_cons, List.length_nil, Bool.false_and, Bool.true_and, Bool.or_false, Bool.false_or, Bool.and_false, Bool.and_true, s1, s2, s4, s24, s25, s5, s6, s26], by simp (disch := first | (simp only [go_sem, Bool.and_self, eq_self]; done) | omega | (simp only [List.length_cons, List.length_nil]; omega)) only [go_sem, ↓reduceIte, Nat.reduceEqDiff, Nat.reduceAdd, Nat.reduceMul, Nat.reduceSub, Int.reduceToNat, Nat.reduceBEq, List.size_toArray, List.length_cons, List.length_nil, Bool.false_and, Bool.true_and, Bool.or_false, Bool.false_or, Bool.and_false, Bool.and_true, bn], by simp (disch := first | (simp only [go_sem, Bool.and_self, eq_self]; done) | omega | (simp only [List.length_cons, List.length_nil]; omega)) only [go_sem, ↓reduceIte, Nat.reduceEqDiff, Nat.reduceAdd, Nat.reduceMul, Nat.reduceSub, Int.reduceToNat, Nat.reduceBEq, List.size_toArray, List.length_cons, List.length_nil, Bool.false_and, Bool.true_and, Bool.or_false, Bool.false_or, Bool.and_false, Bool.and_true, b0], by simp (disch := first | (simp only [go_sem, Bool.and_self, eq_self]; done) | omega | (simp only [List.length_cons, List.length_nil]; omega)) only [go_sem, ↓reduceIte, Nat.reduceEqDiff, Nat.reduceAdd, Nat.reduceMul, Nat.reduceSub, Int.reduceToNat, Nat.reduceBEq, List.size_toArray, List.length_cons, List.length_nil, Bool.false_and, Bool.true_and, Bool.or_false, Bool.false_or, Bool.and_false, Bool.and_true, b1], fun j hj => ?_⟩
      rcases Nat.lt_or_ge j i with h | h
      · exact hn j h
      · rw [show j = i by omega]
        simp only [rowB, decide_eq_true (show (nth p i).length ≤ 3 by omega), decide_eq_true (show (nth t i).length = 2 ^ (nth p i).length by omega), all_range hpar, h8, Bool.not_false, Bool.and_self]

theorem k46 (p t : List (List Int)) (hp : okLL p) (ht : okLL t) : ConW Try.prog cfg 19 h (some ([.agg [LLI p, LLI t]], h')) K = K (netR p t) h' := by
  rw [ConW_any (f46_con p t hp ht) (by unfold netR; split <;> rfl) (by unfold netR; split <;> rfl)]
  unfold netR; split <;> rfl

end Go.Proofs.Ytihnplomlphfjaa.B

set_option linter.unusedVariables false
set_option linter.unusedSimpArgs false
set_option maxRecDepth 10000
namespace Go.Proofs.Ytihnplomlphfjaa.B
open Go Go.Am

variable {h h' : Hp} {K : AV → Hp → Prop}

theorem pow16_le {i n : Nat} (hi : i ≤ n) (hn : n ≤ 10) : (16 : Int) ^ i ≤ 1099511627776 := by
  have h : (16 : Nat) ^ i ≤ 16 ^ 10 := Nat.pow_le_pow_right (by decide) (by omega)
  have h2 : ((16 ^ i : Nat) : Int) ≤ ((16 ^ 10 : Nat) : Int) := Int.ofNat_le.2 h
  rw [Int.natCast_pow] at h2
  simpa using h2
/-- Euclid's steps. -/
def gcdI (a b : Int) : Int := (Int.gcd a b : Int)
theorem gcdI_step {a b : Int} (ha : 0 ≤ a) (hb : 0 < b) : gcdI b (a.tmod b) = gcdI a b := by
  obtain ⟨x, rfl⟩ := Int.eq_ofNat_of_zero_le ha
  obtain ⟨y, rfl⟩ := Int.eq_ofNat_of_zero_le (Int.le_of_lt hb)
  rw [Int.tmod_eq_emod_of_nonneg ha, ← Int.natCast_emod]
  unfold gcdI
  rw [Int.gcd_natCast_natCast, Int.gcd_natCast_natCast, Nat.gcd_comm x y, Nat.gcd_rec y x, Nat.gcd_comm]
theorem gcdI_zero {a : Int} (ha : 0 ≤ a) : gcdI a 0 = a := by
  unfold gcdI; rw [Int.gcd_zero_right]; omega
theorem gcdI_pos {a b : Int} (hb : 0 < b) : 0 < gcdI a b := by
  unfold gcdI
  have : Int.gcd a b ≠ 0 := by rw [Ne, Int.gcd_eq_zero_iff]; omega
  omega
/-- A fraction, reduced. -/
def redu (a b : Int) : AV := .agg [I (a / gcdI a b), I (b / gcdI a b)]
@[go_sem] theorem redu_def (a b : Int) : redu a b = .agg [I (a / gcdI a b), I (b / gcdI a b)] := rfl
theorem div_bounds {a g : Int} (ha : 0 ≤ a) (hg : 0 < g) : 0 ≤ a / g ∧ a / g ≤ a := ⟨Int.ediv_nonneg ha (by omega), Int.ediv_le_self _ ha⟩
theorem f50_con (a b : Int) (ha : 0 ≤ a ∧ a ≤ 4611686018427387904) (hb : 0 < b ∧ b ≤ 4611686018427387904) : Con Try.prog cfg 23 [I a, I b] (redu a b) := by
  have hg := gcdI_pos (a := a) hb.1
  refine Con_intro Try.func23 rfl ok50 (Nat.le_of_ble_eq_true rfl) rfl ?_
  simp only [Try.f23, Option.getD_some, initSt2]
  have e1 : max a (0 - a) = a := by omega
  simp (disch := first | (simp only [go_sem, Bool.and_self, eq_self]; done) | omega | (simp only [List.length_cons, List.length_nil]; omega)) only [go_sem, ↓reduceIte, Nat.reduceEqDiff, Nat.reduceAdd, Nat.reduceMul, Nat.reduceSub, Int.reduceToNat, Nat.reduceBEq, List.size_toArray, List.length_cons, List.length_nil, Bool.false_and, Bool.true_and, Bool.or_false, Bool.false_or, Bool.and_false, Bool.and_true, e1]
  refine WP_cut (fun st h => st 0 = I a ∧ st 1 = I b ∧ st 4 = .ptr 0 0 ∧ st 5 = I (gcdI a b) ∧ h.nx = 1 ∧ h.bl 0 = some (.cells false false [I 0, I 0])) ?_ ?_
  · refine WP_loopK (fun m st h => ∃ x y : Int, m = y.toNat ∧ 0 ≤ x ∧ x ≤ 4611686018427387904 ∧ 0 ≤ y ∧ y ≤ 4611686018427387904 ∧ gcdI x y = gcdI a b ∧ st 0 = I a ∧ st 1 = I b ∧ st 4 = .ptr 0 0 ∧ st 5 = I x ∧ st 6 = I y ∧ h.nx = 1 ∧ h.bl 0 = some (.cells false false [I 0, I 0])) b.toNat
      ⟨a, b, rfl, ha.1, ha.2, by omega, hb.2, rfl, by simp (disch := first | (simp only [go_sem, Bool.and_self, eq_self]; done) | omega | (simp only [List.length_cons, List.length_nil]; omega)) only [go_sem, ↓reduceIte, Nat.reduceEqDiff, Nat.reduceAdd, Nat.reduceMul, Nat.reduceSub, Int.reduceToNat, Nat.reduceBEq, List.size_toArray, List.length_cons, List.length_nil, Bool.false_and, Bool.true_and, Bool.or_false, Bool.false_or, Bool.and_false, Bool.and_true], by simp (disch := first | (simp only [go_sem, Bool.and_self, eq_self]; done) | omega | (simp only [List.length_cons, List.length_nil]; omega)) only [go_sem, ↓reduceIte, Nat.reduceEqDiff, Nat.reduceAdd, Nat.reduceMul, Nat.reduceSub, Int.reduceToNat, Nat.reduceBEq, List.size_toArray, List.length_cons, List.length_nil, Bool.false_and, Bool.true_and, Bool.or_false, Bool.false_or, Bool.and_false, Bool.and_true], by simp (disch := first | (simp only [go_sem, Bool.and_self, eq_self]; done) | omega | (simp only [List.length_cons, List.length_nil]; omega)) only [go_sem, ↓reduceIte, Nat.reduceEqDiff, Nat.reduceAdd, Nat.reduceMul, Nat.reduceSub, Int.reduceToNat, Nat.reduceBEq, List.size_toArray, List.length_cons, List.length_nil, Bool.false_and, Bool.true_and, Bool.or_false, Bool.false_or, Bool.and_false, Bool.and_true], by simp (disch := first | (simp only [go_sem, Bool.and_self, eq_self]; done) | omega | (simp only [List.length_cons, List.length_nil]; omega)) only [go_sem, ↓reduceIte, Nat.reduceEqDiff, Nat.reduceAdd, Nat.reduceMul, Nat.reduceSub, Int.reduceToNat, Nat.reduceBEq, List.size_toArray, List.length_cons, List.length_nil, Bool.false_and, Bool.true_and, Bool.or_false, Bool.false_or, Bool.and_false, Bool.and_true], by simp (disch := first | (simp only [go_sem, Bool.and_self, eq_self]; done) | omega | (simp only [List.length_cons, List.length_nil]; omega)) only [go_sem, ↓reduceIte, Nat.reduceEqDiff, Nat.reduceAdd, Nat.reduceMul, Nat.reduceSub, Int.reduceToNat, Nat.reduceBEq, List.size_toArray, List.length_cons, List.length_nil, Bool.false_and, Bool.true_and, Bool.or_false, Bool.false_or, Bool.and_false, Bool.and_true], by simp (disch := first | (simp only [go_sem, Bool.and_self, eq_self]; done) | omega | (simp only [List.length_cons, List.length_nil]; omega)) only [go_sem, ↓reduceIte, Nat.reduceEqDiff, Nat.reduceAdd, Nat.reduceMul, Nat.reduceSub, Int.reduceToNat, Nat.reduceBEq, List.size_toArray, List.length_cons, List.length_nil, Bool.false_and, Bool.true_and, Bool.or_false, Bool.false_or, Bool.and_false, Bool.and_true], by simp (disch := first | (simp only [go_sem, Bool.and_self, eq_self]; done) | omega | (simp only [List.length_cons, List.length_nil]; omega)) only [go_sem, ↓reduceIte, Nat.reduceEqDiff, Nat.reduceAdd, Nat.reduceMul, Nat.reduceSub, Int.reduceToNat, Nat.reduceBEq, List.size_toArray, List.length_cons, List.length_nil, Bool.false_and, Bool.true_and, Bool.or_false, Bool.false_or, Bool.and_false, Bool.and_true]⟩ ?_
    rintro n st h ⟨x, y, rfl, hx0, hx1, hy0, hy1, hgg, s0, s1, s4, s5, s6, bn, b0⟩
    by_cases hy : y = 0
    · subst hy
      rw [gcdI_zero hx0] at hgg
      subst hgg
      simp (disch := first | (simp only [go_sem, Bool.and_self, eq_self]; done) | omega | (simp only [List.length_cons, List.length_nil]; omega)) only [go_sem, ↓reduceIte, Nat.reduceEqDiff, Nat.reduceAdd, Nat.reduceMul, Nat.reduceSub, Int.reduceToNat, Nat.reduceBEq, List.size_toArray, List.length_cons, List.length_nil, Bool.false_and, Bool.true_and, Bool.or_false, Bool.false_or, Bool.and_false, Bool.and_true, s0, s1, s4, s5, s6, bn, b0]
    have hm0 : 0 ≤ x.tmod y := Int.tmod_nonneg y hx0
    have hm1 : x.tmod y < y := Int.tmod_lt_of_pos x (by omega)
    simp (disch := first | (simp only [go_sem, Bool.and_self, eq_self]; done) | omega | (simp only [List.length_cons, List.length_nil]; omega)) only [go_sem, ↓reduceIte, Nat.reduceEqDiff, Nat.reduceAdd, Nat.reduceMul, Nat.reduceSub, Int.reduceToNat, Nat.reduceBEq, List.size_toArray, List.length_cons, List.length_nil, Bool.false_and, Bool.true_and, Bool.or_false, Bool.false_or, Bool.and_false, Bool.and_true, s0, s1, s4, s5, s6, bn, b0, hy]
    rw [LoopK_normal]
    exact ⟨(x.tmod y).toNat, by omega, y, x.tmod y, rfl, by omega, by omega, hm0, by omega, (gcdI_step hx0 (by omega)).trans hgg, by simp (disch := first | (simp only [go_sem, Bool.and_self, eq_self]; done) | omega | (simp only [List.length_cons, List.length_nil]; omega)) only [go_sem, ↓reduceIte, Nat.reduceEqDiff, Nat.reduceAdd, Nat.reduceMul, Nat.reduceSub, Int.reduceToNat, Nat.reduceBEq, List.size_toArray, List.length_cons, List.length_nil, Bool.false_and, Bool.true_and, Bool.or_false, Bool.false_or, Bool.and_false, Bool.and_true, s0], by simp (disch := first | (simp only [go_sem, Bool.and_self, eq_self]; done) | omega | (simp only [List.length_cons, List.length_nil]; omega)) only [go_sem, ↓reduceIte, Nat.reduceEqDiff, Nat.reduceAdd, Nat.reduceMul, Nat.reduceSub, Int.reduceToNat, Nat.reduceBEq, List.size_toArray, List.length_cons, List.length_nil, Bool.false_and, Bool.true_and, Bool.or_false, Bool.false_or, Bool.and_false, Bool.and_true, s1], by simp (disch := first | (simp only [go_sem, Bool.and_self, eq_self]; done) | omega | (simp only [List.length_cons, List.length_nil]; omega)) only [go_sem, ↓reduceIte, Nat.reduceEqDiff, Nat.reduceAdd, Nat.reduceMul, Nat.reduceSub, Int.reduceToNat, Nat.reduceBEq, List.size_toArray, List.length_cons, List.length_nil, Bool.false_and, Bool.true_and, Bool.or_false, Bool.false_or, Bool.and_false, Bool.and_true, s4], by simp (disch := first | (simp only [go_sem, Bool.and_self, eq_self]; done) | omega | (simp only [List.length_cons, List.length_nil]; omega)) only [go_sem, ↓reduceIte, Nat.reduceEqDiff, Nat.reduceAdd, Nat.reduceMul, Nat.reduceSub, Int.reduceToNat, Nat.reduceBEq, List.size_toArray, List.length_cons, List.length_nil, Bool.false_and, Bool.true_and, Bool.or_false, Bool.false_or, Bool.and_false, Bool.and_true], by simp (disch := first | (simp only [go_sem, Bool.and_self, eq_self]; done) | omega | (simp only [List.length_cons, List.length_nil]; omega)) only [go_sem, ↓reduceIte, Nat.reduceEqDiff, Nat.reduceAdd, Nat.reduceMul, Nat.reduceSub, Int.reduceToNat, Nat.reduceBEq, List.size_toArray, List.length_cons, List.length_nil, Bool.false_and, Bool.true_and, Bool.or_false, Bool.false_or, Bool.and_false, Bool.and_true], by simp (disch := first | (simp only [go_sem, Bool.and_self, eq_self]; done) | omega | (simp only [List.length_cons, List.length_nil]; omega)) only [go_sem, ↓reduceIte, Nat.reduceEqDiff, Nat.reduceAdd, Nat.reduceMul, Nat.reduceSub, Int.reduceToNat, Nat.reduceBEq, List.size_toArray, List.length_cons, List.length_nil, Bool.false_and, Bool.true_and, Bool.or_false, Bool.false_or, Bool.and_false, Bool.and_true, bn], by simp (disch := first | (simp only [go_sem, Bool.and_self, eq_self]; done) | omega | (simp only [List.length_cons, List.length_nil]; omega)) only [go_sem, ↓reduceIte, Nat.reduceEqDiff, Nat.reduceAdd, Nat.reduceMul, Nat.reduceSub, Int.reduceToNat, Nat.reduceBEq, List.size_toArray, List.length_cons, List.length_nil, Bool.false_and, Bool.true_and, Bool.or_false, Bool.false_or, Bool.and_false, Bool.and_true, b0]⟩
  · rintro st h ⟨s0, s1, s4, s5, bn, b0⟩
    have d1 := div_bounds ha.1 hg
    have d2 := div_bounds (Int.le_of_lt hb.1) hg
    have t1 : a.tdiv (gcdI a b) = a / gcdI a b := Int.tdiv_eq_ediv_of_nonneg ha.1
    have t2 : b.tdiv (gcdI a b) = b / gcdI a b := Int.tdiv_eq_ediv_of_nonneg (Int.le_of_lt hb.1)
    have g0 : ¬ gcdI a b = 0 := by omega
    simp (disch := first | (simp only [go_sem, Bool.and_self, eq_self]; done) | omega | (simp only [List.length_cons, List.length_nil]; omega)) only [go_sem, ↓reduceIte, Nat.reduceEqDiff, Nat.reduceAdd, Nat.reduceMul, Nat.reduceSub, Int.reduceToNat, Nat.reduceBEq, List.size_toArray, List.length_cons, List.length_nil, Bool.false_and, Bool.true_and, Bool.or_false, Bool.false_or, Bool.and_false, Bool.and_true, s0, s1, s4, s5, bn, b0, t1, t2, g0]
    rfl
theorem k50 (a b : Int) (ha : 0 ≤ a ∧ a ≤ 4611686018427387904) (hb : 0 < b ∧ b ≤ 4611686018427387904) : ConW Try.prog cfg 23 h (some ([I a, I b], h')) K = K (redu a b) h := ConW_num (f50_con a b ha hb) rfl

end Go.Proofs.Ytihnplomlphfjaa.B

set_option linter.unusedVariables false
set_option linter.unusedSimpArgs false
set_option maxRecDepth 10000
namespace Go.Proofs.Ytihnplomlphfjaa.B
open Go Go.Am

variable {h h' : Hp} {K : AV → Hp → Prop}

/-- What a network's checks come to. -/
structure Net (p t : List (List Int)) : Prop where
  n1 : 1 ≤ p.length ∧ p.length ≤ 10
  tl : t.length = p.length
  pl : ∀ i, i < p.length → (nth p i).length ≤ 3
  tt : ∀ i, i < p.length → (nth t i).length = 2 ^ (nth p i).length
  par : ∀ i j, i < p.length → j < (nth p i).length → 0 ≤ nth (nth p i) j ∧ nth (nth p i) j < i
  asc : ∀ i j, i < p.length → j + 1 < (nth p i).length → nth (nth p i) j < nth (nth p i) (j + 1)
  ent : ∀ i j, i < p.length → j < (nth t i).length → 0 ≤ nth (nth t i) j ∧ nth (nth t i) j ≤ 16
theorem range_all {n : Nat} {f : Nat → Bool} (h : (List.range n).all f = true) {i : Nat} (hi : i < n) : f i = true := List.all_eq_true.1 h i (by simpa using hi)
theorem Net.of {p t : List (List Int)} (h : netB p t = true) : Net p t := by
  simp only [netB, inB, Bool.and_eq_true, decide_eq_true_eq] at h
  obtain ⟨⟨h1, h2⟩, h3⟩ := h
  have hr : ∀ i, i < p.length → ((nth p i).length ≤ 3 ∧ (nth t i).length = 2 ^ (nth p i).length) ∧ (List.range (nth p i).length).all (parB (nth p i) i) = true ∧ (nth t i).any (fun x => !inB x 0 16) = false := by
    intro i hi
    have := range_all h3 hi
    simp only [rowB, Bool.and_eq_true, decide_eq_true_eq, Bool.not_eq_true'] at this
    exact ⟨this.1.1, this.1.2, this.2⟩
  have hpar : ∀ i j, i < p.length → j < (nth p i).length → (0 ≤ nth (nth p i) j ∧ nth (nth p i) j ≤ (i : Int) - 1) ∧ (j = 0 ∨ nth (nth p i) (j - 1) < nth (nth p i) j) := by
    intro i j hi hj
    have := range_all (hr i hi).2.1 hj
    simp only [parB, inB, Bool.and_eq_true, Bool.or_eq_true, decide_eq_true_eq, beq_iff_eq] at this
    exact this
  refine ⟨by omega, h2, fun i hi => (hr i hi).1.1, fun i hi => (hr i hi).1.2, fun i j hi hj => ?_, fun i j hi hj => ?_, fun i j hi hj => ?_⟩
  · have := (hpar i j hi hj).1; omega
  · rcases (hpar i (j + 1) hi hj).2 with h | h
    · omega
    · simpa using h
  · have := (hr i hi).2.2
    rw [List.any_eq_false] at this
    have := this _ (nth_mem hj)
    simp only [inB, Bool.not_eq_true', decide_eq_false_iff_not, Bool.not_eq_eq_eq_not, Bool.not_true, Decidable.not_not] at this
    exact this

/-- Which row of the table: the values of the parents as bits. -/
def caseF (r v : List Int) : Nat → Nat
  | 0 => 0
  | j + 1 => caseF r v j + if nth v (nth r j).toNat = 1 then 2 ^ j else 0
theorem caseF_lt (r v : List Int) : ∀ j, caseF r v j < 2 ^ j
  | 0 => by simp [caseF]
  | j + 1 => by have := caseF_lt r v j; simp only [caseF, Nat.pow_succ]; split <;> omega
/-- The probability of a variable's value, in sixteenths. -/
def wt (p t : List (List Int)) (v : List Int) (i : Nat) : Int :=
  let q := nth (nth t i) (caseF (nth p i) v (nth p i).length)
  if nth v i = 0 then 16 - q else q
def weightB (p t : List (List Int)) (v : List Int) (n : Nat) : Int := prodN (wt p t v) n
theorem wt_bounds {p t : List (List Int)} (N : Net p t) (v : List Int) {i : Nat} (hi : i < p.length) : 0 ≤ wt p t v i ∧ wt p t v i ≤ 16 := by
  have h1 := caseF_lt (nth p i) v (nth p i).length
  have := N.ent i _ hi (by rw [N.tt i hi]; exact h1)
  simp only [wt]; split <;> omega
theorem weight_bounds {p t : List (List Int)} (N : Net p t) (v : List Int) : ∀ {n : Nat}, n ≤ p.length → 0 ≤ weightB p t v n ∧ weightB p t v n ≤ 16 ^ n
  | 0, _ => by simp [weightB, prodN]
  | n + 1, hn => by
    obtain ⟨h1, h2⟩ := weight_bounds N v (n := n) (by omega)
    obtain ⟨h3, h4⟩ := wt_bounds N v (i := n) (by omega)
    rw [weightB, prodN]
    refine ⟨Int.mul_nonneg h1 h3, ?_⟩
    rw [Int.pow_succ]
    exact Int.mul_le_mul h2 h4 h3 (Int.le_trans h1 h2)

/-- A row of ten values, of which n count. -/
structure Vals (v : List Int) (n : Nat) : Prop where
  len : v.length = 10
  bit : ∀ i, i < n → nth v i = 0 ∨ nth v i = 1

theorem allocB_flat (v : List Int) : allocB h (some (.agg (v.flatMap (e1 I)))) = some (.ptr h.nx 0, h.alloc (.cells false false (v.flatMap (e1 I)))) := by
  refine allocB_agg _ (List.all_eq_true.2 fun x hx => ?_)
  obtain ⟨a, _, ha⟩ := List.mem_flatMap.1 hx
  simp only [e1, List.mem_singleton] at ha
  subst ha; rfl
theorem pureL_flat (v : List Int) : AV.pureL (v.flatMap (e1 I)) = true := by
  induction v with
  | nil => rfl
  | cons x xs ih => rw [List.flatMap_cons, pureL_append, ih]; rfl
@[go_sem] theorem sealA_flat (v : List Int) : sealA h (.agg (v.flatMap (e1 I))) = some (.agg (v.flatMap (e1 I)), h) := sealA_agg _ (pureL_flat v)
theorem or_pow {x j : Nat} (h : x < 2 ^ j) : x ||| 2 ^ j = x + 2 ^ j := by
  have := Nat.two_pow_add_eq_or_of_lt h 1
  rw [Nat.mul_one] at this
  rw [Nat.or_comm, ← this, Nat.add_comm]

theorem f51_con (p t : List (List Int)) (N : Net p t) (v : List Int) (hv : Vals v p.length) : Con Try.prog cfg 24 [.agg [LLI p, LLI t, I p.length], .agg (v.flatMap (e1 I))] (I (weightB p t v p.length)) := by
  have hal := fun h => allocB_flat (h := h) v
  have hn1 := N.n1
  have htl := N.tl
  have hvl := hv.len
  have hfl : (v.flatMap (e1 I)).length = 10 := by rw [flat_len, hvl]
  refine Con_intro Try.func24 rfl ok51 (Nat.le_of_ble_eq_true rfl) rfl ?_
  simp only [Try.f24, Option.getD_some, initSt2]
  simp (disch := first | (simp only [go_sem, Bool.and_self, eq_self]; done) | omega | (simp only [List.length_cons, List.length_nil]; omega)) only [go_sem, ↓reduceIte, Nat.reduceEqDiff, Nat.reduceAdd, Nat.reduceMul, Nat.reduceSub, Int.reduceToNat, Nat.reduceBEq, List.size_toArray, List.length_cons, List.length_nil, Bool.false_and, Bool.true_and, Bool.or_false, Bool.false_or, Bool.and_false, Bool.and_true, hal]
  refine WP_for 13 p.length (fun i st h => st 2 = .ptr 0 0 ∧ st 3 = .ptr 1 0 ∧ st 12 = I p.length ∧ st 5 = I (weightB p t v i) ∧ h.nx = 2 ∧ h.bl 0 = some (.cells false false [LLI p, LLI t, I p.length]) ∧ h.bl 1 = some (.cells false false (v.flatMap (e1 I)))) (by simp (disch := first | (simp only [go_sem, Bool.and_self, eq_self]; done) | omega | (simp only [List.length_cons, List.length_nil]; omega)) only [go_sem, ↓reduceIte, Nat.reduceEqDiff, Nat.reduceAdd, Nat.reduceMul, Nat.reduceSub, Int.reduceToNat, Nat.reduceBEq, List.size_toArray, List.length_cons, List.length_nil, Bool.false_and, Bool.true_and, Bool.or_false, Bool.false_or, Bool.and_false, Bool.and_true]) ⟨by simp (disch := first | (simp only [go_sem, Bool.and_self, eq_self]; done) | omega | (simp only [List.length_cons, List.length_nil]; omega)) only [go_sem, ↓reduceIte, Nat.reduceEqDiff, Nat.reduceAdd, Nat.reduceMul, Nat.reduceSub, Int.reduceToNat, Nat.reduceBEq, List.size_toArray, List.length_cons, List.length_nil, Bool.false_and, Bool.true_and, Bool.or_false, Bool.false_or, Bool.and_false, Bool.and_true], by simp (disch := first | (simp only [go_sem, Bool.and_self, eq_self]; done) | omega | (simp only [List.length_cons, List.length_nil]; omega)) only [go_sem, ↓reduceIte, Nat.reduceEqDiff, Nat.reduceAdd, Nat.reduceMul, Nat.reduceSub, Int.reduceToNat, Nat.reduceBEq, List.size_toArray, List.length_cons, List.length_nil, Bool.false_and, Bool.true_and, Bool.or_false, Bool.false_or, Bool.and_false, Bool.and_true], by simp (disch := first | (simp only [go_sem, Bool.and_self, eq_self]; done) | omega | (simp only [List.length_cons, List.length_nil]; omega)) only [go_sem, ↓reduceIte, Nat.reduceEqDiff, Nat.reduceAdd, Nat.reduceMul, Nat.reduceSub, Int.reduceToNat, Nat.reduceBEq, List.size_toArray, List.length_cons, List.length_nil, Bool.false_and, Bool.true_and, Bool.or_false, Bool.false_or, Bool.and_false, Bool.and_true], by simp (disch := first | (simp only [go_sem, Bool.and_self, eq_self]; done) | omega | (simp only [List.length_cons, List.length_nil]; omega)) only [go_sem, ↓reduceIte, Nat.reduceEqDiff, Nat.reduceAdd, Nat.reduceMul, Nat.reduceSub, Int.reduceToNat, Nat.reduceBEq, List.size_toArray, List.length_cons, List.length_nil, Bool.false_and, Bool.true_and, Bool.or_false, Bool.false_or, Bool.and_false, Bool.and_true]; rfl, by simp (disch := first | (simp only [go_sem, Bool.and_self, eq_self]; done) | omega | (simp only [List.length_cons, List.length_nil]; omega)) only [go_sem, ↓reduceIte, Nat.reduceEqDiff, Nat.reduceAdd, Nat.reduceMul, Nat.reduceSub, Int.reduceToNat, Nat.reduceBEq, List.size_toArray, List.length_cons, List.length_nil, Bool.false_and, Bool.true_and, Bool.or_false, Bool.false_or, Bool.and_false, Bool.and_true], by simp (disch := first | (simp only [go_sem, Bool.and_self, eq_self]; done) | omega | (simp only [List.length_cons, List.length_nil]; omega)) only [go_sem, ↓reduceIte, Nat.reduceEqDiff, Nat.reduceAdd, Nat.reduceMul, Nat.reduceSub, Int.reduceToNat, Nat.reduceBEq, List.size_toArray, List.length_cons, List.length_nil, Bool.false_and, Bool.true_and, Bool.or_false, Bool.false_or, Bool.and_false, Bool.and_true], by simp (disch := first | (simp only [go_sem, Bool.and_self, eq_self]; done) | omega | (simp only [List.length_cons, List.length_nil]; omega)) only [go_sem, ↓reduceIte, Nat.reduceEqDiff, Nat.reduceAdd, Nat.reduceMul, Nat.reduceSub, Int.reduceToNat, Nat.reduceBEq, List.size_toArray, List.length_cons, List.length_nil, Bool.false_and, Bool.true_and, Bool.or_false, Bool.false_or, Bool.and_false, Bool.and_true]⟩ ?_
  rintro i st h hi s13 ⟨s2, s3, s12, s5, bn, b0, b1⟩
  by_cases hlt : i < p.length
  case neg =>
    have : i = p.length := by omega
    subst this
    simp (disch := first | (simp only [go_sem, Bool.and_self, eq_self]; done) | omega | (simp only [List.length_cons, List.length_nil]; omega)) only [go_sem, ↓reduceIte, Nat.reduceEqDiff, Nat.reduceAdd, Nat.reduceMul, Nat.reduceSub, Int.reduceToNat, Nat.reduceBEq, List.size_toArray, List.length_cons, List.length_nil, Bool.false_and, Bool.true_and, Bool.or_false, Bool.false_or, Bool.and_false, Bool.and_true, s2, s3, s12, s5, s13, hlt]
  have hpl := N.pl i hlt
  simp (disch := first | (simp only [go_sem, Bool.and_self, eq_self]; done) | omega | (simp only [List.length_cons, List.length_nil]; omega)) only [go_sem, ↓reduceIte, Nat.reduceEqDiff, Nat.reduceAdd, Nat.reduceMul, Nat.reduceSub, Int.reduceToNat, Nat.reduceBEq, List.size_toArray, List.length_cons, List.length_nil, Bool.false_and, Bool.true_and, Bool.or_false, Bool.false_or, Bool.and_false, Bool.and_true, s2, s3, s12, s5, s13, bn, b0, b1, hlt]
  refine WP_cut (fun st h => st 2 = .ptr 0 0 ∧ st 3 = .ptr 1 0 ∧ st 12 = I p.length ∧ st 6 = I i ∧ st 5 = I (weightB p t v i) ∧ st 13 = I i ∧ st 7 = I (caseF (nth p i) v (nth p i).length) ∧ h.nx = 2 ∧ h.bl 0 = some (.cells false false [LLI p, LLI t, I p.length]) ∧ h.bl 1 = some (.cells false false (v.flatMap (e1 I)))) ?_ ?_
  · refine WP_for 23 (nth p i).length (fun k st h => st 2 = .ptr 0 0 ∧ st 3 = .ptr 1 0 ∧ st 12 = I p.length ∧ st 6 = I i ∧ st 5 = I (weightB p t v i) ∧ st 13 = I i ∧ st 7 = I (caseF (nth p i) v k) ∧ st 21 = LI (nth p i) ∧ st 22 = I (nth p i).length ∧ h.nx = 2 ∧ h.bl 0 = some (.cells false false [LLI p, LLI t, I p.length]) ∧ h.bl 1 = some (.cells false false (v.flatMap (e1 I)))) (by simp (disch := first | (simp only [go_sem, Bool.and_self, eq_self]; done) | omega | (simp only [List.length_cons, List.length_nil]; omega)) only [go_sem, ↓reduceIte, Nat.reduceEqDiff, Nat.reduceAdd, Nat.reduceMul, Nat.reduceSub, Int.reduceToNat, Nat.reduceBEq, List.size_toArray, List.length_cons, List.length_nil, Bool.false_and, Bool.true_and, Bool.or_false, Bool.false_or, Bool.and_false, Bool.and_true]) ⟨by simp (disch := first | (simp only [go_sem, Bool.and_self, eq_self]; done) | omega | (simp only [List.length_cons, List.length_nil]; omega)) only [go_sem, ↓reduceIte, Nat.reduceEqDiff, Nat.reduceAdd, Nat.reduceMul, Nat.reduceSub, Int.reduceToNat, Nat.reduceBEq, List.size_toArray, List.length_cons, List.length_nil, Bool.false_and, Bool.true_and, Bool.or_false, Bool.false_or, Bool.and_false, Bool.and_true, s2, s3, s12, s5, s13], by simp (disch := first | (simp only [go_sem, Bool.and_self, eq_self]; done) | omega | (simp only [List.length_cons, List.length_nil]; omega)) only [go_sem, ↓reduceIte, Nat.reduceEqDiff, Nat.reduceAdd, Nat.reduceMul, Nat.reduceSub, Int.reduceToNat, Nat.reduceBEq, List.size_toArray, List.length_cons, List.length_nil, Bool.false_and, Bool.true_and, Bool.or_false, Bool.false_or, Bool.and_false, Bool.and_true, s2, s3, s12, s5, s13], by simp (disch := first | (simp only [go_sem, Bool.and_self, eq_self]; done) | omega | (simp only [List.length_cons, List.length_nil]; omega)) only [go_sem, ↓reduceIte, Nat.reduceEqDiff, Nat.reduceAdd, Nat.reduceMul, Nat.reduceSub, Int.reduceToNat, Nat.reduceBEq, List.size_toArray, List.length_cons, List.length_nil, Bool.false_and, Bool.true_and, Bool.or_false, Bool.false_or, Bool.and_false, Bool.and_true, s2, s3, s12, s5, s13], by simp (disch := first | (simp only [go_sem, Bool.and_self, eq_self]; done) | omega | (simp only [List.length_cons, List.length_nil]; omega)) only [go_sem, ↓reduceIte, Nat.reduceEqDiff, Nat.reduceAdd, Nat.reduceMul, Nat.reduceSub, Int.reduceToNat, Nat.reduceBEq, List.size_toArray, List.length_cons, List.length_nil, Bool.false_and, Bool.true_and, Bool.or_false, Bool.false_or, Bool.and_false, Bool.and_true, s2, s3, s12, s5, s13], by simp (disch := first | (simp only [go_sem, Bool.and_self, eq_self]; done) | omega | (simp only [List.length_cons, List.length_nil]; omega)) only [go_sem, ↓reduceIte, Nat.reduceEqDiff, Nat.reduceAdd, Nat.reduceMul, Nat.reduceSub, Int.reduceToNat, Nat.reduceBEq, List.size_toArray, List.length_cons, List.length_nil, Bool.false_and, Bool.true_and, Bool.or_false, Bool.false_or, Bool.and_false, Bool.and_true, s2, s3, s12, s5, s13], by simp (disch := first | (simp only [go_sem, Bool.and_self, eq_self]; done) | omega | (simp only [List.length_cons, List.length_nil]; omega)) only [go_sem, ↓reduceIte, Nat.reduceEqDiff, Nat.reduceAdd, Nat.reduceMul, Nat.reduceSub, Int.reduceToNat, Nat.reduceBEq, List.size_toArray, List.length_cons, List.length_nil, Bool.false_and, Bool.true_and, Bool.or_false, Bool.false_or, Bool.and_false, Bool.and_true, s2, s3, s12, s5, s13], by simp (disch := first | (simp only [go_sem, Bool.and_self, eq_self]; done) | omega | (simp only [List.length_cons, List.length_nil]; omega)) only [go_sem, ↓reduceIte, Nat.reduceEqDiff, Nat.reduceAdd, Nat.reduceMul, Nat.reduceSub, Int.reduceToNat, Nat.reduceBEq, List.size_toArray, List.length_cons, List.length_nil, Bool.false_and, Bool.true_and, Bool.or_false, Bool.false_or, Bool.and_false, Bool.and_true]; rfl, by simp (disch := first | (simp only [go_sem, Bool.and_self, eq_self]; done) | omega | (simp only [List.length_cons, List.length_nil]; omega)) only [go_sem, ↓reduceIte, Nat.reduceEqDiff, Nat.reduceAdd, Nat.reduceMul, Nat.reduceSub, Int.reduceToNat, Nat.reduceBEq, List.size_toArray, List.length_cons, List.length_nil, Bool.false_and, Bool.true_and, Bool.or_false, Bool.false_or, Bool.and_false, Bool.and_true, hlt], by simp (disch := first | (simp only [go_sem, Bool.and_self, eq_self]; done) | omega | (simp only [List.length_cons, List.length_nil]; omega)) only [go_sem, ↓reduceIte, Nat.reduceEqDiff, Nat.reduceAdd, Nat.reduceMul, Nat.reduceSub, Int.reduceToNat, Nat.reduceBEq, List.size_toArray, List.length_cons, List.length_nil, Bool.false_and, Bool.true_and, Bool.or_false, Bool.false_or, Bool.and_false, Bool.and_true, hlt], by simp (disch := first | (simp only [go_sem, Bool.and_self, eq_self]; done) | omega | (simp only [List.length_cons, List.length_nil]; omega)) only [go_sem, ↓reduceIte, Nat.reduceEqDiff, Nat.reduceAdd, Nat.reduceMul, Nat.reduceSub, Int.reduceToNat, Nat.reduceBEq, List.size_toArray, List.length_cons, List.length_nil, Bool.false_and, Bool.true_and, Bool.or_false, Bool.false_or, Bool.and_false, Bool.and_true, bn], by simp (disch := first | (simp only [go_sem, Bool.and_self, eq_self]; done) | omega | (simp only [List.length_cons, List.length_nil]; omega)) only [go_sem, ↓reduceIte, Nat.reduceEqDiff, Nat.reduceAdd, Nat.reduceMul, Nat.reduceSub, Int.reduceToNat, Nat.reduceBEq, List.size_toArray, List.length_cons, List.length_nil, Bool.false_and, Bool.true_and, Bool.or_false, Bool.false_or, Bool.and_false, Bool.and_true, b0], by simp (disch := first | (simp only [go_sem, Bool.and_self, eq_self]; done) | omega | (simp only [List.length_cons, List.length_nil]; omega)) only [go_sem, ↓reduceIte, Nat.reduceEqDiff, Nat.reduceAdd, Nat.reduceMul, Nat.reduceSub, Int.reduceToNat, Nat.reduceBEq, List.size_toArray, List.length_cons, List.length_nil, Bool.false_and, Bool.true_and, Bool.or_false, Bool.false_or, Bool.and_false, Bool.and_true, b1]⟩ ?_
    rintro k st h hk s23 ⟨s2, s3, s12, s6, s5, s13, s7, s21, s22, bn, b0, b1⟩
    by_cases hkl : k < (nth p i).length
    case neg =>
      have hkk : k = (nth p i).length := by omega
      simp (disch := first | (simp only [go_sem, Bool.and_self, eq_self]; done) | omega | (simp only [List.length_cons, List.length_nil]; omega)) only [go_sem, ↓reduceIte, Nat.reduceEqDiff, Nat.reduceAdd, Nat.reduceMul, Nat.reduceSub, Int.reduceToNat, Nat.reduceBEq, List.size_toArray, List.length_cons, List.length_nil, Bool.false_and, Bool.true_and, Bool.or_false, Bool.false_or, Bool.and_false, Bool.and_true, s2, s3, s12, s6, s5, s13, s7, s21, s22, s23, bn, b0, b1, hkl]
      rw [hkk]
    obtain ⟨a0, a1⟩ := N.par i k hlt hkl
    have a2 : nth (nth p i) k < 10 := by omega
    have fg := flat_get I v (nth (nth p i) k).toNat (by omega)
    have hb := hv.bit (nth (nth p i) k).toNat (by omega)
    have c1 := caseF_lt (nth p i) v k
    have c2 : 2 ^ k < 2 ^ 3 := Nat.pow_lt_pow_right (by omega) (by omega)
    rcases hb with hb | hb
    · have e1 : ∀ t, binA Try.prog .shl t (I 0) (I (k : Int)) = some (I 0) := fun t => by rw [binA_shl _ _ _ _ _ (by omega), Int.zero_mul, wrap_ok _ (by decide) (by decide)]
      have e2 : ∀ t, binA Try.prog .or t (I (caseF (nth p i) v k : Nat)) (I 0) = some (I (caseF (nth p i) v k : Nat)) := fun t => by
        have := binA_or (P := Try.prog) t (caseF (nth p i) v k) 0 (by omega) (by omega)
        simpa using this
      simp (disch := first | (simp only [go_sem, Bool.and_self, eq_self]; done) | omega | (simp only [List.length_cons, List.length_nil]; omega)) only [go_sem, ↓reduceIte, Nat.reduceEqDiff, Nat.reduceAdd, Nat.reduceMul, Nat.reduceSub, Int.reduceToNat, Nat.reduceBEq, List.size_toArray, List.length_cons, List.length_nil, Bool.false_and, Bool.true_and, Bool.or_false, Bool.false_or, Bool.and_false, Bool.and_true, s2, s3, s12, s6, s5, s13, s7, s21, s22, s23, bn, b0, b1, hkl, a0, a2, fg, hb, e1, e2]
      rw [ForK_normal]
      refine ⟨hkl, by simp (disch := first | (simp only [go_sem, Bool.and_self, eq_self]; done) | omega | (simp only [List.length_cons, List.length_nil]; omega)) only [go_sem, ↓reduceIte, Nat.reduceEqDiff, Nat.reduceAdd, Nat.reduceMul, Nat.reduceSub, Int.reduceToNat, Nat.reduceBEq, List.size_toArray, List.length_cons, List.length_nil, Bool.false_and, Bool.true_and, Bool.or_false, Bool.false_or, Bool.and_false, Bool.and_true, s23], by simp (disch := first | (simp only [go_sem, Bool.and_self, eq_self]; done) | omega | (simp only [List.length_cons, List.length_nil]; omega)) only [go_sem, ↓reduceIte, Nat.reduceEqDiff, Nat.reduceAdd, Nat.reduceMul, Nat.reduceSub, Int.reduceToNat, Nat.reduceBEq, List.size_toArray, List.length_cons, List.length_nil, Bool.false_and, Bool.true_and, Bool.or_false, Bool.false_or, Bool.and_false, Bool.and_true, s2], by simp (disch := first | (simp only [go_sem, Bool.and_self, eq_self]; done) | omega | (simp only [List.length_cons, List.length_nil]; omega)) only [go_sem, ↓reduceIte, Nat.reduceEqDiff, Nat.reduceAdd, Nat.reduceMul, Nat.reduceSub, Int.reduceToNat, Nat.reduceBEq, List.size_toArray, List.length_cons, List.length_nil, Bool.false_and, Bool.true_and, Bool.or_false, Bool.false_or, Bool.and_false, Bool.and_true, s3], by simp (disch := first | (simp only [go_sem, Bool.and_self, eq_self]; done) | omega | (simp only [List.length_cons, List.length_nil]; omega)) only [go_sem, ↓reduceIte, Nat.reduceEqDiff, Nat.reduceAdd, Nat.reduceMul, Nat.reduceSub, Int.reduceToNat, Nat.reduceBEq, List.size_toArray, List.length_cons, List.length_nil, Bool.false_and, Bool.true_and, Bool.or_false, Bool.false_or, Bool.and_false, Bool.and_true, s12], by simp (disch := first | (simp only [go_sem, Bool.and_self, eq_self]; done) | omega | (simp only [List.length_cons, List.length_nil]; omega)) only [go_sem, ↓reduceIte, Nat.reduceEqDiff, Nat.reduceAdd, Nat.reduceMul, Nat.reduceSub, Int.reduceToNat, Nat.reduceBEq, List.size_toArray, List.length_cons, List.length_nil, Bool.false_and, Bool.true_and, Bool.or_false, Bool.false_or, Bool.and_false, Bool.and_true, s6], by simp (disch := first | (simp only [go_sem, Bool.and_self, eq_self]; done) | omega | (simp only [List.length_cons, List.length_nil]; omega)) only [go_sem, ↓reduceIte, Nat.reduceEqDiff, Nat.reduceAdd, Nat.reduceMul, Nat.reduceSub, Int.reduceToNat, Nat.reduceBEq, List.size_toArray, List.length_cons, List.length_nil, Bool.false_and, Bool.true_and, Bool.or_false, Bool.false_or, Bool.and_false, Bool.and_true, s5], by simp (disch := first | (simp only [go_sem, Bool.and_self, eq_self]; done) | omega | (simp only [List.length_cons, List.length_nil]; omega)) only [go_sem, ↓reduceIte, Nat.reduceEqDiff, Nat.reduceAdd, Nat.reduceMul, Nat.reduceSub, Int.reduceToNat, Nat.reduceBEq, List.size_toArray, List.length_cons, List.length_nil, Bool.false_and, Bool.true_and, Bool.or_false, Bool.false_or, Bool.and_false, Bool.and_true, s13], ?_, by simp (disch := first | (simp only [go_sem, Bool.and_self, eq_self]; done) | omega | (simp only [List.length_cons, List.length_nil]; omega)) only [go_sem, ↓reduceIte, Nat.reduceEqDiff, Nat.reduceAdd, Nat.reduceMul, Nat.reduceSub, Int.reduceToNat, Nat.reduceBEq, List.size_toArray, List.length_cons, List.length_nil, Bool.false_and, Bool.true_and, Bool.or_false, Bool.false_or, Bool.and_false, Bool.and_true, s21], by simp (disch := first | (simp only [go_sem, Bool.and_self, eq_self]; done) | omega | (simp only [List.length_cons, List.length_nil]; omega)) only [go_sem, ↓reduceIte, Nat.reduceEqDiff, Nat.reduceAdd, Nat.reduceMul, Nat.reduceSub, Int.reduceToNat, Nat.reduceBEq, List.size_toArray, List.length_cons, List.length_nil, Bool.false_and, Bool.true_and, Bool.or_false, Bool.false_or, Bool.and_false, Bool.and_true, s22], by simp (disch := first | (simp only [go_sem, Bool.and_self, eq_self]; done) | omega | (simp only [List.length_cons, List.length_nil]; omega)) only [go_sem, ↓reduceIte, Nat.reduceEqDiff, Nat.reduceAdd, Nat.reduceMul, Nat.reduceSub, Int.reduceToNat, Nat.reduceBEq, List.size_toArray, List.length_cons, List.length_nil, Bool.false_and, Bool.true_and, Bool.or_false, Bool.false_or, Bool.and_false, Bool.and_true, bn], by simp (disch := first | (simp only [go_sem, Bool.and_self, eq_self]; done) | omega | (simp only [List.length_cons, List.length_nil]; omega)) only [go_sem, ↓reduceIte, Nat.reduceEqDiff, Nat.reduceAdd, Nat.reduceMul, Nat.reduceSub, Int.reduceToNat, Nat.reduceBEq, List.size_toArray, List.length_cons, List.length_nil, Bool.false_and, Bool.true_and, Bool.or_false, Bool.false_or, Bool.and_false, Bool.and_true, b0], by simp (disch := first | (simp only [go_sem, Bool.and_self, eq_self]; done) | omega | (simp only [List.length_cons, List.length_nil]; omega)) only [go_sem, ↓reduceIte, Nat.reduceEqDiff, Nat.reduceAdd, Nat.reduceMul, Nat.reduceSub, Int.reduceToNat, Nat.reduceBEq, List.size_toArray, List.length_cons, List.length_nil, Bool.false_and, Bool.true_and, Bool.or_false, Bool.false_or, Bool.and_false, Bool.and_true, b1]⟩
      simp (disch := first | (simp only [go_sem, Bool.and_self, eq_self]; done) | omega | (simp only [List.length_cons, List.length_nil]; omega)) only [go_sem, ↓reduceIte, Nat.reduceEqDiff, Nat.reduceAdd, Nat.reduceMul, Nat.reduceSub, Int.reduceToNat, Nat.reduceBEq, List.size_toArray, List.length_cons, List.length_nil, Bool.false_and, Bool.true_and, Bool.or_false, Bool.false_or, Bool.and_false, Bool.and_true]; simp [caseF, hb]
    · have e1 := fun t => shl_one (P := Try.prog) t k (by omega)
      have e2 := fun t => binA_or (P := Try.prog) t (caseF (nth p i) v k) (2 ^ k) (by omega) (by omega)
      simp (disch := first | (simp only [go_sem, Bool.and_self, eq_self]; done) | omega | (simp only [List.length_cons, List.length_nil]; omega)) only [go_sem, ↓reduceIte, Nat.reduceEqDiff, Nat.reduceAdd, Nat.reduceMul, Nat.reduceSub, Int.reduceToNat, Nat.reduceBEq, List.size_toArray, List.length_cons, List.length_nil, Bool.false_and, Bool.true_and, Bool.or_false, Bool.false_or, Bool.and_false, Bool.and_true, s2, s3, s12, s6, s5, s13, s7, s21, s22, s23, bn, b0, b1, hkl, a0, a2, fg, hb, e1, e2]
      rw [ForK_normal]
      refine ⟨hkl, by simp (disch := first | (simp only [go_sem, Bool.and_self, eq_self]; done) | omega | (simp only [List.length_cons, List.length_nil]; omega)) only [go_sem, ↓reduceIte, Nat.reduceEqDiff, Nat.reduceAdd, Nat.reduceMul, Nat.reduceSub, Int.reduceToNat, Nat.reduceBEq, List.size_toArray, List.length_cons, List.length_nil, Bool.false_and, Bool.true_and, Bool.or_false, Bool.false_or, Bool.and_false, Bool.and_true, s23], by simp (disch := first | (simp only [go_sem, Bool.and_self, eq_self]; done) | omega | (simp only [List.length_cons, List.length_nil]; omega)) only [go_sem, ↓reduceIte, Nat.reduceEqDiff, Nat.reduceAdd, Nat.reduceMul, Nat.reduceSub, Int.reduceToNat, Nat.reduceBEq, List.size_toArray, List.length_cons, List.length_nil, Bool.false_and, Bool.true_and, Bool.or_false, Bool.false_or, Bool.and_false, Bool.and_true, s2], by simp (disch := first | (simp only [go_sem, Bool.and_self, eq_self]; done) | omega | (simp only [List.length_cons, List.length_nil]; omega)) only [go_sem, ↓reduceIte, Nat.reduceEqDiff, Nat.reduceAdd, Nat.reduceMul, Nat.reduceSub, Int.reduceToNat, Nat.reduceBEq, List.size_toArray, List.length_cons, List.length_nil, Bool.false_and, Bool.true_and, Bool.or_false, Bool.false_or, Bool.and_false, Bool.and_true, s3], by simp (disch := first | (simp only [go_sem, Bool.and_self, eq_self]; done) | omega | (simp only [List.length_cons, List.length_nil]; omega)) only [go_sem, ↓reduceIte, Nat.reduceEqDiff, Nat.reduceAdd, Nat.reduceMul, Nat.reduceSub, Int.reduceToNat, Nat.reduceBEq, List.size_toArray, List.length_cons, List.length_nil, Bool.false_and, Bool.true_and, Bool.or_false, Bool.false_or, Bool.and_false, Bool.and_true, s12], by simp (disch := first | (simp only [go_sem, Bool.and_self, eq_self]; done) | omega | (simp only [List.length_cons, List.length_nil]; omega)) only [go_sem, ↓reduceIte, Nat.reduceEqDiff, Nat.reduceAdd, Nat.reduceMul, Nat.reduceSub, Int.reduceToNat, Nat.reduceBEq, List.size_toArray, List.length_cons, List.length_nil, Bool.false_and, Bool.true_and, Bool.or_false, Bool.false_or, Bool.and_false, Bool.and_true, s6], by simp (disch := first | (simp only [go_sem, Bool.and_self, eq_self]; done) | omega | (simp only [List.length_cons, List.length_nil]; omega)) only [go_sem, ↓reduceIte, Nat.reduceEqDiff, Nat.reduceAdd, Nat.reduceMul, Nat.reduceSub, Int.reduceToNat, Nat.reduceBEq, List.size_toArray, List.length_cons, List.length_nil, Bool.false_and, Bool.true_and, Bool.or_false, Bool.false_or, Bool.and_false, Bool.and_true, s5], by simp (disch := first | (simp only [go_sem, Bool.and_self, eq_self]; done) | omega | (simp only [List.length_cons, List.length_nil]; omega)) only [go_sem, ↓reduceIte, Nat.reduceEqDiff, Nat.reduceAdd, Nat.reduceMul, Nat.reduceSub, Int.reduceToNat, Nat.reduceBEq, List.size_toArray, List.length_cons, List.length_nil, Bool.false_and, Bool.true_and, Bool.or_false, Bool.false_or, Bool.and_false, Bool.and_true, s13], ?_, by simp (disch := first | (simp only [go_sem, Bool.and_self, eq_self]; done) | omega | (simp only [List.length_cons, List.length_nil]; omega)) only [go_sem, ↓reduceIte, Nat.reduceEqDiff, Nat.reduceAdd, Nat.reduceMul, Nat.reduceSub, Int.reduceToNat, Nat.reduceBEq, List.size_toArray, List.length_cons, List.length_nil, Bool.false_and, Bool.true_and, Bool.or_false, Bool.false_or, Bool.and_false, Bool.and_true, s21], by simp (disch := first | (simp only [go_sem, Bool.and_self, eq_self]; done) | omega | (simp only [List.length_cons, List.length_nil]; omega)) only [go_sem, ↓reduceIte, Nat.reduceEqDiff, Nat.reduceAdd, Nat.reduceMul, Nat.reduceSub, Int.reduceToNat, Nat.reduceBEq, List.size_toArray, List.length_cons, List.length_nil, Bool.false_and, Bool.true_and, Bool.or_false, Bool.false_or, Bool.and_false, Bool.and_true, s22], by simp (disch := first | (simp only [go_sem, Bool.and_self, eq_self]; done) | omega | (simp only [List.length_cons, List.length_nil]; omega)) only [go_sem, ↓reduceIte, Nat.reduceEqDiff, Nat.reduceAdd, Nat.reduceMul, Nat.reduceSub, Int.reduceToNat, Nat.reduceBEq, List.size_toArray, List.length_cons, List.length_nil, Bool.false_and, Bool.true_and, Bool.or_false, Bool.false_or, Bool.and_false, Bool.and_true, bn], by simp (disch := first | (simp only [go_sem, Bool.and_self, eq_self]; done) | omega | (simp only [List.length_cons, List.length_nil]; omega)) only [go_sem, ↓reduceIte, Nat.reduceEqDiff, Nat.reduceAdd, Nat.reduceMul, Nat.reduceSub, Int.reduceToNat, Nat.reduceBEq, List.size_toArray, List.length_cons, List.length_nil, Bool.false_and, Bool.true_and, Bool.or_false, Bool.false_or, Bool.and_false, Bool.and_true, b0], by simp (disch := first | (simp only [go_sem, Bool.and_self, eq_self]; done) | omega | (simp only [List.length_cons, List.length_nil]; omega)) only [go_sem, ↓reduceIte, Nat.reduceEqDiff, Nat.reduceAdd, Nat.reduceMul, Nat.reduceSub, Int.reduceToNat, Nat.reduceBEq, List.size_toArray, List.length_cons, List.length_nil, Bool.false_and, Bool.true_and, Bool.or_false, Bool.false_or, Bool.and_false, Bool.and_true, b1]⟩
      simp (disch := first | (simp only [go_sem, Bool.and_self, eq_self]; done) | omega | (simp only [List.length_cons, List.length_nil]; omega)) only [go_sem, ↓reduceIte, Nat.reduceEqDiff, Nat.reduceAdd, Nat.reduceMul, Nat.reduceSub, Int.reduceToNat, Nat.reduceBEq, List.size_toArray, List.length_cons, List.length_nil, Bool.false_and, Bool.true_and, Bool.or_false, Bool.false_or, Bool.and_false, Bool.and_true]; simp [caseF, hb, or_pow c1]
  · rintro st h ⟨s2, s3, s12, s6, s5, s13, s7, bn, b0, b1⟩
    have c1 := caseF_lt (nth p i) v (nth p i).length
    have hlt2 : i < t.length := by omega
    have c2 : caseF (nth p i) v (nth p i).length < (nth t i).length := by rw [N.tt i hlt]; exact c1
    have fg := flat_get I v i (by omega)
    obtain ⟨w1, w2⟩ := weight_bounds N v (n := i) (by omega)
    obtain ⟨w3, w4⟩ := weight_bounds N v (n := i + 1) (by omega)
    have w5 := pow16_le (i := i + 1) (n := 10) (by omega) (by omega)
    obtain ⟨q1, q2⟩ := N.ent i _ hlt c2
    have hi10 : i < 10 := by omega
    have w6 : weightB p t v (i + 1) = weightB p t v i * wt p t v i := rfl
    by_cases hz : nth v i = 0
    · have hw : wt p t v i = 16 - nth (nth t i) (caseF (nth p i) v (nth p i).length) := by simp only [wt, hz, if_true]
      rw [w6, hw] at w3 w4
      simp (disch := first | (simp only [go_sem, Bool.and_self, eq_self]; done) | omega | (simp only [List.length_cons, List.length_nil]; omega)) only [go_sem, ↓reduceIte, Nat.reduceEqDiff, Nat.reduceAdd, Nat.reduceMul, Nat.reduceSub, Int.reduceToNat, Nat.reduceBEq, List.size_toArray, List.length_cons, List.length_nil, Bool.false_and, Bool.true_and, Bool.or_false, Bool.false_or, Bool.and_false, Bool.and_true, s2, s3, s12, s6, s5, s13, s7, bn, b0, b1, hlt, hlt2, c2, fg, hz, hi10]
      rw [ForK_normal]
      refine ⟨hlt, by simp (disch := first | (simp only [go_sem, Bool.and_self, eq_self]; done) | omega | (simp only [List.length_cons, List.length_nil]; omega)) only [go_sem, ↓reduceIte, Nat.reduceEqDiff, Nat.reduceAdd, Nat.reduceMul, Nat.reduceSub, Int.reduceToNat, Nat.reduceBEq, List.size_toArray, List.length_cons, List.length_nil, Bool.false_and, Bool.true_and, Bool.or_false, Bool.false_or, Bool.and_false, Bool.and_true, s2, s3, s12, s6, s5, s13], by simp (disch := first | (simp only [go_sem, Bool.and_self, eq_self]; done) | omega | (simp only [List.length_cons, List.length_nil]; omega)) only [go_sem, ↓reduceIte, Nat.reduceEqDiff, Nat.reduceAdd, Nat.reduceMul, Nat.reduceSub, Int.reduceToNat, Nat.reduceBEq, List.size_toArray, List.length_cons, List.length_nil, Bool.false_and, Bool.true_and, Bool.or_false, Bool.false_or, Bool.and_false, Bool.and_true, s2, s3, s12, s6, s5, s13], by simp (disch := first | (simp only [go_sem, Bool.and_self, eq_self]; done) | omega | (simp only [List.length_cons, List.length_nil]; omega)) only [go_sem, ↓reduceIte, Nat.reduceEqDiff, Nat.reduceAdd, Nat.reduceMul, Nat.reduceSub, Int.reduceToNat, Nat.reduceBEq, List.size_toArray, List.length_cons, List.length_nil, Bool.false_and, Bool.true_and, Bool.or_false, Bool.false_or, Bool.and_false, Bool.and_true, s2, s3, s12, s6, s5, s13], by simp (disch := first | (simp only [go_sem, Bool.and_self, eq_self]; done) | omega | (simp only [List.length_cons, List.length_nil]; omega)) only [go_sem, ↓reduceIte, Nat.reduceEqDiff, Nat.reduceAdd, Nat.reduceMul, Nat.reduceSub, Int.reduceToNat, Nat.reduceBEq, List.size_toArray, List.length_cons, List.length_nil, Bool.false_and, Bool.true_and, Bool.or_false, Bool.false_or, Bool.and_false, Bool.and_true, s2, s3, s12, s6, s5, s13], by simp (disch := first | (simp only [go_sem, Bool.and_self, eq_self]; done) | omega | (simp only [List.length_cons, List.length_nil]; omega)) only [go_sem, ↓reduceIte, Nat.reduceEqDiff, Nat.reduceAdd, Nat.reduceMul, Nat.reduceSub, Int.reduceToNat, Nat.reduceBEq, List.size_toArray, List.length_cons, List.length_nil, Bool.false_and, Bool.true_and, Bool.or_false, Bool.false_or, Bool.and_false, Bool.and_true, w6, hw], by simp (disch := first | (simp only [go_sem, Bool.and_self, eq_self]; done) | omega | (simp only [List.length_cons, List.length_nil]; omega)) only [go_sem, ↓reduceIte, Nat.reduceEqDiff, Nat.reduceAdd, Nat.reduceMul, Nat.reduceSub, Int.reduceToNat, Nat.reduceBEq, List.size_toArray, List.length_cons, List.length_nil, Bool.false_and, Bool.true_and, Bool.or_false, Bool.false_or, Bool.and_false, Bool.and_true, bn], by simp (disch := first | (simp only [go_sem, Bool.and_self, eq_self]; done) | omega | (simp only [List.length_cons, List.length_nil]; omega)) only [go_sem, ↓reduceIte, Nat.reduceEqDiff, Nat.reduceAdd, Nat.reduceMul, Nat.reduceSub, Int.reduceToNat, Nat.reduceBEq, List.size_toArray, List.length_cons, List.length_nil, Bool.false_and, Bool.true_and, Bool.or_false, Bool.false_or, Bool.and_false, Bool.and_true, b0], by simp (disch := first | (simp only [go_sem, Bool.and_self, eq_self]; done) | omega | (simp only [List.length_cons, List.length_nil]; omega)) only [go_sem, ↓reduceIte, Nat.reduceEqDiff, Nat.reduceAdd, Nat.reduceMul, Nat.reduceSub, Int.reduceToNat, Nat.reduceBEq, List.size_toArray, List.length_cons, List.length_nil, Bool.false_and, Bool.true_and, Bool.or_false, Bool.false_or, Bool.and_false, Bool.and_true, b1]⟩
    · have hw : wt p t v i = nth (nth t i) (caseF (nth p i) v (nth p i).length) := by simp only [wt, hz, if_false]
      rw [w6, hw] at w3 w4
      simp (disch := first | (simp only [go_sem, Bool.and_self, eq_self]; done) | omega | (simp only [List.length_cons, List.length_nil]; omega)) only [go_sem, ↓reduceIte, Nat.reduceEqDiff, Nat.reduceAdd, Nat.reduceMul, Nat.reduceSub, Int.reduceToNat, Nat.reduceBEq, List.size_toArray, List.length_cons, List.length_nil, Bool.false_and, Bool.true_and, Bool.or_false, Bool.false_or, Bool.and_false, Bool.and_true, s2, s3, s12, s6, s5, s13, s7, bn, b0, b1, hlt, hlt2, c2, fg, hz, hi10]
      rw [ForK_normal]
      refine ⟨hlt, by simp (disch := first | (simp only [go_sem, Bool.and_self, eq_self]; done) | omega | (simp only [List.length_cons, List.length_nil]; omega)) only [go_sem, ↓reduceIte, Nat.reduceEqDiff, Nat.reduceAdd, Nat.reduceMul, Nat.reduceSub, Int.reduceToNat, Nat.reduceBEq, List.size_toArray, List.length_cons, List.length_nil, Bool.false_and, Bool.true_and, Bool.or_false, Bool.false_or, Bool.and_false, Bool.and_true, s2, s3, s12, s6, s5, s13], by simp (disch := first | (simp only [go_sem, Bool.and_self, eq_self]; done) | omega | (simp only [List.length_cons, List.length_nil]; omega)) only [go_sem, ↓reduceIte, Nat.reduceEqDiff, Nat.reduceAdd, Nat.reduceMul, Nat.reduceSub, Int.reduceToNat, Nat.reduceBEq, List.size_toArray, List.length_cons, List.length_nil, Bool.false_and, Bool.true_and, Bool.or_false, Bool.false_or, Bool.and_false, Bool.and_true, s2, s3, s12, s6, s5, s13], by simp (disch := first | (simp only [go_sem, Bool.and_self, eq_self]; done) | omega | (simp only [List.length_cons, List.length_nil]; omega)) only [go_sem, ↓reduceIte, Nat.reduceEqDiff, Nat.reduceAdd, Nat.reduceMul, Nat.reduceSub, Int.reduceToNat, Nat.reduceBEq, List.size_toArray, List.length_cons, List.length_nil, Bool.false_and, Bool.true_and, Bool.or_false, Bool.false_or, Bool.and_false, Bool.and_true, s2, s3, s12, s6, s5, s13], by simp (disch := first | (simp only [go_sem, Bool.and_self, eq_self]; done) | omega | (simp only [List.length_cons, List.length_nil]; omega)) only [go_sem, ↓reduceIte, Nat.reduceEqDiff, Nat.reduceAdd, Nat.reduceMul, Nat.reduceSub, Int.reduceToNat, Nat.reduceBEq, List.size_toArray, List.length_cons, List.length_nil, Bool.false_and, Bool.true_and, Bool.or_false, Bool.false_or, Bool.and_false, Bool.and_true, s2, s3, s12, s6, s5, s13], by simp (disch := first | (simp only [go_sem, Bool.and_self, eq_self]; done) | omega | (simp only [List.length_cons, List.length_nil]; omega)) only [go_sem, ↓reduceIte, Nat.reduceEqDiff, Nat.reduceAdd, Nat.reduceMul, Nat.reduceSub, Int.reduceToNat, Nat.reduceBEq, List.size_toArray, List.length_cons, List.length_nil, Bool.false_and, Bool.true_and, Bool.or_false, Bool.false_or, Bool.and_false, Bool.and_true, w6, hw], by simp (disch := first | (simp only [go_sem, Bool.and_self, eq_self]; done) | omega | (simp only [List.length_cons, List.length_nil]; omega)) only [go_sem, ↓reduceIte, Nat.reduceEqDiff, Nat.reduceAdd, Nat.reduceMul, Nat.reduceSub, Int.reduceToNat, Nat.reduceBEq, List.size_toArray, List.length_cons, List.length_nil, Bool.false_and, Bool.true_and, Bool.or_false, Bool.false_or, Bool.and_false, Bool.and_true, bn], by simp (disch := first | (simp only [go_sem, Bool.and_self, eq_self]; done) | omega | (simp only [List.length_cons, List.length_nil]; omega)) only [go_sem, ↓reduceIte, Nat.reduceEqDiff, Nat.reduceAdd, Nat.reduceMul, Nat.reduceSub, Int.reduceToNat, Nat.reduceBEq, List.size_toArray, List.length_cons, List.length_nil, Bool.false_and, Bool.true_and, Bool.or_false, Bool.false_or, Bool.and_false, Bool.and_true, b0], by simp (disch := first | (simp only [go_sem, Bool.and_self, eq_self]; done) | omega | (simp only [List.length_cons, List.length_nil]; omega)) only [go_sem, ↓reduceIte, Nat.reduceEqDiff, Nat.reduceAdd, Nat.reduceMul, Nat.reduceSub, Int.reduceToNat, Nat.reduceBEq, List.size_toArray, List.length_cons, List.length_nil, Bool.false_and, Bool.true_and, Bool.or_false, Bool.false_or, Bool.and_false, Bool.and_true, b1]⟩
theorem k51 (p t : List (List Int)) (N : Net p t) (v : List Int) (hv : Vals v p.length) : ConW Try.prog cfg 24 h (some ([.agg [LLI p, LLI t, I p.length], .agg (v.flatMap (e1 I))], h')) K = K (I (weightB p t v p.length)) h := ConW_num (f51_con p t N v hv) rfl

end Go.Proofs.Ytihnplomlphfjaa.B

set_option linter.unusedVariables false
set_option linter.unusedSimpArgs false
set_option maxRecDepth 10000
namespace Go.Proofs.Ytihnplomlphfjaa.B
open Go Go.Am

variable {h h' : Hp} {K : AV → Hp → Prop}

theorem netR_t {p t : List (List Int)} (h : netB p t = true) : netR p t = .tup [.agg [LLI p, LLI t, I p.length], I 0] := by simp [netR, h]
theorem netR_f {p t : List (List Int)} (h : netB p t = false) : netR p t = .tup [.agg [.nil, .nil, I 0], I 2] := by simp [netR, h]
/-- A row of values filled up to ten. -/
def ten (v : List Int) : List Int := v ++ (List.replicate 10 (0 : Int)).drop v.length
theorem ten_len {v : List Int} (h : v.length ≤ 10) : (ten v).length = 10 := by simp [ten]; omega
theorem ten_nth {v : List Int} {i : Nat} (hi : i < v.length) : nth (ten v) i = nth v i := nth_append_left _ _ _ hi
theorem z10 : [I 0, I 0, I 0, I 0, I 0, I 0, I 0, I 0, I 0, I 0] = (List.replicate 10 (0 : Int)).flatMap (e1 I) := rfl
theorem loadC_flat (v : List Int) (h : v.length = 10) (e : TypeId) : loadC (some (.array 10 e)) (some 10) (some (v.flatMap (e1 I), 0)) = some (.agg (v.flatMap (e1 I))) := by
  have : (v.flatMap (e1 I)).length = 10 := by rw [flat_len, h]
  rw [loadC_agg _ _ rfl _ _ (by omega), List.drop_zero, List.take_of_length_le (by omega)]
end Go.Proofs.Ytihnplomlphfjaa.B

set_option linter.unusedVariables false
set_option linter.unusedSimpArgs false
set_option maxRecDepth 10000
namespace Go.Proofs.Ytihnplomlphfjaa.B
open Go Go.Am

variable {h h' : Hp} {K : AV → Hp → Prop}

end Go.Proofs.Ytihnplomlphfjaa.B

set_option linter.unusedVariables false
set_option linter.unusedSimpArgs false
set_option maxRecDepth 10000
namespace Go.Proofs.Ytihnplomlphfjaa.B
open Go Go.Am

variable {h h' : Hp} {K : AV → Hp → Prop}

/-- A row of values, one for each variable. -/
structure Row (p : List (List Int)) (v : List Int) : Prop where
  len : v.length = p.length
  bit : ∀ i, i < p.length → nth v i = 0 ∨ nth v i = 1
theorem caseF_congr {r v w : List Int} : ∀ {j : Nat}, (∀ k, k < j → nth v (nth r k).toNat = nth w (nth r k).toNat) → caseF r v j = caseF r w j
  | 0, _ => rfl
  | j + 1, h => by simp only [caseF]; rw [caseF_congr (j := j) fun k hk => h k (by omega), h j (by omega)]
theorem wt_congr {p t : List (List Int)} (N : Net p t) {v w : List Int} {i : Nat} (hi : i < p.length) (h : ∀ k, k < p.length → nth v k = nth w k) : wt p t v i = wt p t w i := by
  have : caseF (nth p i) v (nth p i).length = caseF (nth p i) w (nth p i).length := caseF_congr fun k hk => by
    obtain ⟨a0, a1⟩ := N.par i k hi hk
    exact h _ (by omega)
  simp only [wt, this, h i hi]
theorem prodN_congr {f g : Nat → Int} : ∀ {n : Nat}, (∀ i, i < n → f i = g i) → prodN f n = prodN g n
  | 0, _ => rfl
  | n + 1, h => by rw [prodN, prodN, prodN_congr fun i hi => h i (Nat.lt_succ_of_lt hi), h n (Nat.lt_succ_self n)]
theorem weight_congr {p t : List (List Int)} (N : Net p t) {v w : List Int} (h : ∀ k, k < p.length → nth v k = nth w k) : weightB p t v p.length = weightB p t w p.length :=
  prodN_congr fun i hi => wt_congr N hi h

end Go.Proofs.Ytihnplomlphfjaa.B

set_option linter.unusedVariables false
set_option linter.unusedSimpArgs false
set_option maxRecDepth 10000
namespace Go.Proofs.Ytihnplomlphfjaa.B
open Go Go.Am

variable {h h' : Hp} {K : AV → Hp → Prop}

def listM (v : List Int) : List Int := v.take (min v.length 20)
def tableRow (a : List (List Int)) (i : Nat) : List Int := listM (nth a i)
/-- One row more, whatever holds the rows. -/
structure App (h : Hp) (v : AV) (a : List (List Int)) (i : Nat) : Prop where
  own : Own (e1 LI) 1 h v ((List.range i).map (tableRow a))
  nil : i = 0 → v = .nil
theorem App.step {v : AV} {a : List (List Int)} {i : Nat} (p : App h v a i) (hi : i < 12) : appB Try.prog h (some (.slice 23)) true v (.lst [[LI (tableRow a i)]]) =
    some (appV h ((List.range (i + 1)).map (tableRow a)).length 1, appH h v (((List.range (i + 1)).map (tableRow a)).flatMap (e1 LI))) := by
  have := app_one (P := Try.prog) p.own 23 24 .nil (tableRow a i) isz25 ibytes25 izero25 rfl (by simp; omega) (by simp; omega)
  rw [← rows_snoc]
  exact this
theorem App.next (h : Hp) (v : AV) (a : List (List Int)) (i : Nat) : App (appH h v (((List.range (i + 1)).map (tableRow a)).flatMap (e1 LI))) (appV h ((List.range (i + 1)).map (tableRow a)).length 1) a (i + 1) :=
  ⟨Own.app _ _ _, fun h => by omega⟩

end Go.Proofs.Ytihnplomlphfjaa.B

set_option linter.unusedVariables false
set_option linter.unusedSimpArgs false
set_option maxRecDepth 10000
namespace Go.Proofs.Ytihnplomlphfjaa.B
open Go Go.Am

variable {h h' : Hp} {K : AV → Hp → Prop}

abbrev LP (fs : List (Int × Int)) : AV := L eP fs
def factB (n : Int) (fs : List (Int × Int)) (i : Nat) : Bool := inB (nth fs i).1 0 (n - 1) && inB (nth fs i).2 0 1 && (List.range i).all fun j => !((nth fs j).1 == (nth fs i).1)
def factsB (n : Int) (fs : List (Int × Int)) : Bool := (List.range fs.length).all (factB n fs)
def entF (fs : List (Int × Int)) : List (Int × AV) := fs.map fun f => (f.1, I f.2)
theorem ent_take {fs : List (Int × Int)} {i : Nat} (hi : i < fs.length) : entF (fs.take (i + 1)) = entF (fs.take i) ++ [((nth fs i).1, I (nth fs i).2)] := by
  rw [entF, entF, List.take_add_one, List.map_append, nth_get hi]; rfl
theorem ent_none {fs : List (Int × Int)} {i : Nat} {k : Int} (hi : i ≤ fs.length) (h : ∀ j, j < i → (nth fs j).1 ≠ k) : ∀ p ∈ entF (fs.take i), p.1 ≠ k := by
  intro p hp
  obtain ⟨f, hf, rfl⟩ := List.mem_map.1 hp
  obtain ⟨j, hj, rfl⟩ := List.getElem_of_mem hf
  rw [List.length_take] at hj
  rw [List.getElem_take, ← nth_getElem (by omega)]
  exact h j (by omega)
theorem findK_some {es : List (Int × AV)} {k : Int} (h : ∃ p ∈ es, p.1 = k) : (findK k es).isSome = true := by
  induction es with
  | nil => obtain ⟨p, hp, _⟩ := h; cases hp
  | cons q es ih =>
    obtain ⟨j, v⟩ := q
    simp only [findK]
    split
    · rfl
    · rename_i hne
      obtain ⟨p, hp, hk⟩ := h
      rcases List.mem_cons.1 hp with rfl | hp
      · exact absurd hk.symm hne
      · exact ih ⟨p, hp, hk⟩
theorem loadC_eP (e : TypeId) (f : Int × Int) : loadC (some (.array 2 e)) (some 2) (some (eP f, 0)) = some (.agg [I f.1, I f.2]) := loadC_arr2 2 e _ _

theorem f54_shr (p t : List (List Int)) (n : Int) (hn : 1 ≤ n ∧ n ≤ 10) (fs : List (Int × Int)) (hf : fs.length ≤ maxLen) (H : Hp) : ∃ v h', Shr Try.prog cfg 27 [.agg [LLI p, LLI t, I n], LP fs] H v h' ∧
    (H.nx ≤ h'.nx ∧ (∀ id, id < H.nx → h'.bl id = H.bl id) ∧
      ((factsB n fs = true ∧ v = .tup [.mp (H.nx + 1), .bool true] ∧ H.nx + 1 < h'.nx ∧ h'.bl (H.nx + 1) = some (.mp false (entF fs))) ∨ (factsB n fs = false ∧ v = .tup [.nilmp, .bool false]))) := by
  have ml : maxLen = 9223372036854775807 := by decide
  refine Shr_intro Try.func27 rfl ok54 (Nat.le_of_ble_eq_true rfl) ?_
  simp only [Try.f27, Option.getD_some, initSt2]
  simp (disch := first | (simp only [go_sem, Bool.and_self, eq_self]; done) | omega | (simp only [List.length_cons, List.length_nil]; omega)) only [go_sem, ↓reduceIte, Nat.reduceEqDiff, Nat.reduceAdd, Nat.reduceMul, Nat.reduceSub, Int.reduceToNat, Nat.reduceBEq, List.size_toArray, List.length_cons, List.length_nil, Bool.false_and, Bool.true_and, Bool.or_false, Bool.false_or, Bool.and_false, Bool.and_true]
  refine WP_for 14 fs.length (fun i st h => st 2 = .ptr H.nx 0 ∧ st 4 = .nilmp ∧ st 5 = .bool false ∧ st 6 = .mp (H.nx + 1) ∧ st 12 = LP fs ∧ st 13 = I fs.length ∧ H.nx + 2 ≤ h.nx ∧ (∀ id, id < H.nx → h.bl id = H.bl id) ∧ h.bl H.nx = some (.cells false false [LLI p, LLI t, I n]) ∧ h.bl (H.nx + 1) = some (.mp false (entF (fs.take i))) ∧ ∀ j, j < i → factB n fs j = true) (by simp (disch := first | (simp only [go_sem, Bool.and_self, eq_self]; done) | omega | (simp only [List.length_cons, List.length_nil]; omega)) only [go_sem, ↓reduceIte, Nat.reduceEqDiff, Nat.reduceAdd, Nat.reduceMul, Nat.reduceSub, Int.reduceToNat, Nat.reduceBEq, List.size_toArray, List.length_cons, List.length_nil, Bool.false_and, Bool.true_and, Bool.or_false, Bool.false_or, Bool.and_false, Bool.and_true]) ⟨by simp (disch := first | (simp only [go_sem, Bool.and_self, eq_self]; done) | omega | (simp only [List.length_cons, List.length_nil]; omega)) only [go_sem, ↓reduceIte, Nat.reduceEqDiff, Nat.reduceAdd, Nat.reduceMul, Nat.reduceSub, Int.reduceToNat, Nat.reduceBEq, List.size_toArray, List.length_cons, List.length_nil, Bool.false_and, Bool.true_and, Bool.or_false, Bool.false_or, Bool.and_false, Bool.and_true], by simp (disch := first | (simp only [go_sem, Bool.and_self, eq_self]; done) | omega | (simp only [List.length_cons, List.length_nil]; omega)) only [go_sem, ↓reduceIte, Nat.reduceEqDiff, Nat.reduceAdd, Nat.reduceMul, Nat.reduceSub, Int.reduceToNat, Nat.reduceBEq, List.size_toArray, List.length_cons, List.length_nil, Bool.false_and, Bool.true_and, Bool.or_false, Bool.false_or, Bool.and_false, Bool.and_true], by simp (disch := first | (simp only [go_sem, Bool.and_self, eq_self]; done) | omega | (simp only [List.length_cons, List.length_nil]; omega)) only [go_sem, ↓reduceIte, Nat.reduceEqDiff, Nat.reduceAdd, Nat.reduceMul, Nat.reduceSub, Int.reduceToNat, Nat.reduceBEq, List.size_toArray, List.length_cons, List.length_nil, Bool.false_and, Bool.true_and, Bool.or_false, Bool.false_or, Bool.and_false, Bool.and_true], by simp (disch := first | (simp only [go_sem, Bool.and_self, eq_self]; done) | omega | (simp only [List.length_cons, List.length_nil]; omega)) only [go_sem, ↓reduceIte, Nat.reduceEqDiff, Nat.reduceAdd, Nat.reduceMul, Nat.reduceSub, Int.reduceToNat, Nat.reduceBEq, List.size_toArray, List.length_cons, List.length_nil, Bool.false_and, Bool.true_and, Bool.or_false, Bool.false_or, Bool.and_false, Bool.and_true], by simp (disch := first | (simp only [go_sem, Bool.and_self, eq_self]; done) | omega | (simp only [List.length_cons, List.length_nil]; omega)) only [go_sem, ↓reduceIte, Nat.reduceEqDiff, Nat.reduceAdd, Nat.reduceMul, Nat.reduceSub, Int.reduceToNat, Nat.reduceBEq, List.size_toArray, List.length_cons, List.length_nil, Bool.false_and, Bool.true_and, Bool.or_false, Bool.false_or, Bool.and_false, Bool.and_true], by simp (disch := first | (simp only [go_sem, Bool.and_self, eq_self]; done) | omega | (simp only [List.length_cons, List.length_nil]; omega)) only [go_sem, ↓reduceIte, Nat.reduceEqDiff, Nat.reduceAdd, Nat.reduceMul, Nat.reduceSub, Int.reduceToNat, Nat.reduceBEq, List.size_toArray, List.length_cons, List.length_nil, Bool.false_and, Bool.true_and, Bool.or_false, Bool.false_or, Bool.and_false, Bool.and_true], ?_, ?_, ?_, ?_, by omega⟩ ?_
  · simp (disch := first | (simp only [go_sem, Bool.and_self, eq_self]; done) | omega | (simp only [List.length_cons, List.length_nil]; omega)) only [go_sem, ↓reduceIte, Nat.reduceEqDiff, Nat.reduceAdd, Nat.reduceMul, Nat.reduceSub, Int.reduceToNat, Nat.reduceBEq, List.size_toArray, List.length_cons, List.length_nil, Bool.false_and, Bool.true_and, Bool.or_false, Bool.false_or, Bool.and_false, Bool.and_true]; omega
  · intro id hid; simp (disch := first | (simp only [go_sem, Bool.and_self, eq_self]; done) | omega | (simp only [List.length_cons, List.length_nil]; omega)) only [go_sem, ↓reduceIte, Nat.reduceEqDiff, Nat.reduceAdd, Nat.reduceMul, Nat.reduceSub, Int.reduceToNat, Nat.reduceBEq, List.size_toArray, List.length_cons, List.length_nil, Bool.false_and, Bool.true_and, Bool.or_false, Bool.false_or, Bool.and_false, Bool.and_true]; simp [show id ≠ H.nx + 1 by omega, show id ≠ H.nx by omega]
  · simp (disch := first | (simp only [go_sem, Bool.and_self, eq_self]; done) | omega | (simp only [List.length_cons, List.length_nil]; omega)) only [go_sem, ↓reduceIte, Nat.reduceEqDiff, Nat.reduceAdd, Nat.reduceMul, Nat.reduceSub, Int.reduceToNat, Nat.reduceBEq, List.size_toArray, List.length_cons, List.length_nil, Bool.false_and, Bool.true_and, Bool.or_false, Bool.false_or, Bool.and_false, Bool.and_true]; simp
  · simp (disch := first | (simp only [go_sem, Bool.and_self, eq_self]; done) | omega | (simp only [List.length_cons, List.length_nil]; omega)) only [go_sem, ↓reduceIte, Nat.reduceEqDiff, Nat.reduceAdd, Nat.reduceMul, Nat.reduceSub, Int.reduceToNat, Nat.reduceBEq, List.size_toArray, List.length_cons, List.length_nil, Bool.false_and, Bool.true_and, Bool.or_false, Bool.false_or, Bool.and_false, Bool.and_true]; rfl
  rintro i st h hi s14 ⟨s2, s4, s5, s6, s12, s13, bn, bf, b0, b1, hg⟩
  by_cases hlt : i < fs.length
  case neg =>
    have hii : i = fs.length := by omega
    have hfa : factsB n fs = true := all_range fun j hj => hg j (by omega)
    have hft : fs.take i = fs := by rw [hii]; exact List.take_length
    rw [hft] at b1
    simp (disch := first | (simp only [go_sem, Bool.and_self, eq_self]; done) | omega | (simp only [List.length_cons, List.length_nil]; omega)) only [go_sem, ↓reduceIte, Nat.reduceEqDiff, Nat.reduceAdd, Nat.reduceMul, Nat.reduceSub, Int.reduceToNat, Nat.reduceBEq, List.size_toArray, List.length_cons, List.length_nil, Bool.false_and, Bool.true_and, Bool.or_false, Bool.false_or, Bool.and_false, Bool.and_true, s2, s4, s5, s6, s12, s13, s14, b0, b1, hlt]
    exact ⟨by omega, bf, .inl ⟨hfa, by omega⟩⟩
  have bad : factB n fs i = false → factsB n fs = false := fun h => not_all_range hlt h
  have hld := loadC_eP 3 (nth fs i)
  have hal : ∀ g : Hp, allocB g (some (.agg [I 0, I 0])) = some (.ptr g.nx 0, g.alloc (.cells false false [I 0, I 0])) := fun g => allocB_agg _ rfl
  have e0 : ¬ H.nx = h.nx := by omega
  have e2 : ¬ H.nx + 1 = h.nx := by omega
  by_cases hdup : ∃ j, j < i ∧ (nth fs j).1 = (nth fs i).1
  · obtain ⟨j, hj, hje⟩ := hdup
    have q := bad (by
      simp only [factB, not_all_range (f := fun j => !((nth fs j).1 == (nth fs i).1)) hj (by simp [hje]), Bool.and_false])
    have hfk : (findK (nth fs i).1 (entF (fs.take i))).isSome = true := findK_some ⟨((nth fs j).1, I (nth fs j).2), by
      rw [entF, List.mem_map]
      refine ⟨nth fs j, ?_, rfl⟩
      rw [List.mem_take_iff_getElem]
      exact ⟨j, by omega, (nth_getElem (by omega)).symm⟩, hje⟩
    have hlk := lookB_one 3 3 .i64 (I 0) (H.nx + 1) false (entF (fs.take i)) (nth fs i).1 true rfl
    rw [hfk] at hlk
    simp (disch := first | (simp only [go_sem, Bool.and_self, eq_self]; done) | omega | (simp only [List.length_cons, List.length_nil]; omega)) only [go_sem, ↓reduceIte, Nat.reduceEqDiff, Nat.reduceAdd, Nat.reduceMul, Nat.reduceSub, Int.reduceToNat, Nat.reduceBEq, List.size_toArray, List.length_cons, List.length_nil, Bool.false_and, Bool.true_and, Bool.or_false, Bool.false_or, Bool.and_false, Bool.and_true, s2, s4, s5, s6, s12, s13, s14, b0, b1, hlt, hld, hal, e0, e2, hlk]
    refine ⟨by omega, fun id hid => ?_, .inr q⟩
    rw [← bf id hid]; simp [show id ≠ h.nx by omega]
  have hnd : ∀ j, j < i → (nth fs j).1 ≠ (nth fs i).1 := fun j hj he => hdup ⟨j, hj, he⟩
  have hno := ent_none (by omega) hnd
  have hlk : lookB (some (.map 3 3)) (some (.int .i64)) (some (I 0)) (.mp (H.nx + 1)) (some (.mp false (entF (fs.take i)))) true (I (nth fs i).1) true = some (.tup [I 0, .bool false]) := by
    rw [lookB_one _ _ _ _ _ _ _ _ _ rfl, findK_none hno]; rfl
  cases h5 : inB (nth fs i).1 0 (n - 1) with
  | false =>
    have q := bad (by simp only [factB, h5, Bool.false_and])
    simp (disch := first | (simp only [go_sem, Bool.and_self, eq_self]; done) | omega | (simp only [List.length_cons, List.length_nil]; omega)) only [go_sem, ↓reduceIte, Nat.reduceEqDiff, Nat.reduceAdd, Nat.reduceMul, Nat.reduceSub, Int.reduceToNat, Nat.reduceBEq, List.size_toArray, List.length_cons, List.length_nil, Bool.false_and, Bool.true_and, Bool.or_false, Bool.false_or, Bool.and_false, Bool.and_true, s2, s4, s5, s6, s12, s13, s14, b0, b1, hlt, hld, hal, e0, e2, hlk, h5]
    refine ⟨by omega, fun id hid => ?_, .inr q⟩
    rw [← bf id hid]; simp [show id ≠ h.nx by omega]
  | true =>
  cases h6 : inB (nth fs i).2 0 1 with
  | false =>
    have q := bad (by simp only [factB, h6, Bool.false_and, Bool.and_false])
    simp (disch := first | (simp only [go_sem, Bool.and_self, eq_self]; done) | omega | (simp only [List.length_cons, List.length_nil]; omega)) only [go_sem, ↓reduceIte, Nat.reduceEqDiff, Nat.reduceAdd, Nat.reduceMul, Nat.reduceSub, Int.reduceToNat, Nat.reduceBEq, List.size_toArray, List.length_cons, List.length_nil, Bool.false_and, Bool.true_and, Bool.or_false, Bool.false_or, Bool.and_false, Bool.and_true, s2, s4, s5, s6, s12, s13, s14, b0, b1, hlt, hld, hal, e0, e2, hlk, h5, h6]
    refine ⟨by omega, fun id hid => ?_, .inr q⟩
    rw [← bf id hid]; simp [show id ≠ h.nx by omega]
  | true =>
  have hgi : factB n fs i = true := by
    simp only [factB, h5, h6, Bool.true_and]
    exact all_range fun j hj => by simp [hnd j hj]
  have hpk := putK_none (x := I (nth fs i).2) hno
  rw [← ent_take hlt] at hpk
  simp (disch := first | (simp only [go_sem, Bool.and_self, eq_self]; done) | omega | (simp only [List.length_cons, List.length_nil]; omega)) only [go_sem, ↓reduceIte, Nat.reduceEqDiff, Nat.reduceAdd, Nat.reduceMul, Nat.reduceSub, Int.reduceToNat, Nat.reduceBEq, List.size_toArray, List.length_cons, List.length_nil, Bool.false_and, Bool.true_and, Bool.or_false, Bool.false_or, Bool.and_false, Bool.and_true, s2, s4, s5, s6, s12, s13, s14, b0, b1, hlt, hld, hal, e0, e2, hlk, h5, h6, hpk]
  rw [ForK_normal]
  refine ⟨hlt, by simp (disch := first | (simp only [go_sem, Bool.and_self, eq_self]; done) | omega | (simp only [List.length_cons, List.length_nil]; omega)) only [go_sem, ↓reduceIte, Nat.reduceEqDiff, Nat.reduceAdd, Nat.reduceMul, Nat.reduceSub, Int.reduceToNat, Nat.reduceBEq, List.size_toArray, List.length_cons, List.length_nil, Bool.false_and, Bool.true_and, Bool.or_false, Bool.false_or, Bool.and_false, Bool.and_true, s14], by simp (disch := first | (simp only [go_sem, Bool.and_self, eq_self]; done) | omega | (simp only [List.length_cons, List.length_nil]; omega)) only [go_sem, ↓reduceIte, Nat.reduceEqDiff, Nat.reduceAdd, Nat.reduceMul, Nat.reduceSub, Int.reduceToNat, Nat.reduceBEq, List.size_toArray, List.length_cons, List.length_nil, Bool.false_and, Bool.true_and, Bool.or_false, Bool.false_or, Bool.and_false, Bool.and_true, s2], by simp (disch := first | (simp only [go_sem, Bool.and_self, eq_self]; done) | omega | (simp only [List.length_cons, List.length_nil]; omega)) only [go_sem, ↓reduceIte, Nat.reduceEqDiff, Nat.reduceAdd, Nat.reduceMul, Nat.reduceSub, Int.reduceToNat, Nat.reduceBEq, List.size_toArray, List.length_cons, List.length_nil, Bool.false_and, Bool.true_and, Bool.or_false, Bool.false_or, Bool.and_false, Bool.and_true, s4], by simp (disch := first | (simp only [go_sem, Bool.and_self, eq_self]; done) | omega | (simp only [List.length_cons, List.length_nil]; omega)) only [go_sem, ↓reduceIte, Nat.reduceEqDiff, Nat.reduceAdd, Nat.reduceMul, Nat.reduceSub, Int.reduceToNat, Nat.reduceBEq, List.size_toArray, List.length_cons, List.length_nil, Bool.false_and, Bool.true_and, Bool.or_false, Bool.false_or, Bool.and_false, Bool.and_true, s5], by simp (disch := first | (simp only [go_sem, Bool.and_self, eq_self]; done) | omega | (simp only [List.length_cons, List.length_nil]; omega)) only [go_sem, ↓reduceIte, Nat.reduceEqDiff, Nat.reduceAdd, Nat.reduceMul, Nat.reduceSub, Int.reduceToNat, Nat.reduceBEq, List.size_toArray, List.length_cons, List.length_nil, Bool.false_and, Bool.true_and, Bool.or_false, Bool.false_or, Bool.and_false, Bool.and_true, s6], by simp (disch := first | (simp only [go_sem, Bool.and_self, eq_self]; done) | omega | (simp only [List.length_cons, List.length_nil]; omega)) only [go_sem, ↓reduceIte, Nat.reduceEqDiff, Nat.reduceAdd, Nat.reduceMul, Nat.reduceSub, Int.reduceToNat, Nat.reduceBEq, List.size_toArray, List.length_cons, List.length_nil, Bool.false_and, Bool.true_and, Bool.or_false, Bool.false_or, Bool.and_false, Bool.and_true, s12], by simp (disch := first | (simp only [go_sem, Bool.and_self, eq_self]; done) | omega | (simp only [List.length_cons, List.length_nil]; omega)) only [go_sem, ↓reduceIte, Nat.reduceEqDiff, Nat.reduceAdd, Nat.reduceMul, Nat.reduceSub, Int.reduceToNat, Nat.reduceBEq, List.size_toArray, List.length_cons, List.length_nil, Bool.false_and, Bool.true_and, Bool.or_false, Bool.false_or, Bool.and_false, Bool.and_true, s13], ?_, fun id hid => ?_, ?_, ?_, fun j hj => ?_⟩
  · simp (disch := first | (simp only [go_sem, Bool.and_self, eq_self]; done) | omega | (simp only [List.length_cons, List.length_nil]; omega)) only [go_sem, ↓reduceIte, Nat.reduceEqDiff, Nat.reduceAdd, Nat.reduceMul, Nat.reduceSub, Int.reduceToNat, Nat.reduceBEq, List.size_toArray, List.length_cons, List.length_nil, Bool.false_and, Bool.true_and, Bool.or_false, Bool.false_or, Bool.and_false, Bool.and_true]; omega
  · rw [← bf id hid]; simp [show id ≠ h.nx by omega, show id ≠ H.nx + 1 by omega, Hp.put, Hp.alloc]
  · simp [Hp.put, Hp.alloc, show H.nx ≠ h.nx by omega, b0]
  · simp [Hp.put, Hp.alloc]
  · rcases Nat.lt_or_ge j i with h | h
    · exact hg j h
    · rw [show j = i by omega]; exact hgi

end Go.Proofs.Ytihnplomlphfjaa.B

set_option linter.unusedVariables false
set_option linter.unusedSimpArgs false
set_option maxRecDepth 10000
namespace Go.Proofs.Ytihnplomlphfjaa.B
open Go Go.Am

variable {h h' : Hp} {K : AV → Hp → Prop}

def okv (φ : Int → Option Int) (i : Nat) (x : Int) : Bool := match φ i with | some y => decide (y = x) | none => true
/-- The rows that are visited, in their order: 'm' values are still to be chosen. -/
def vis (φ : Int → Option Int) : Nat → List Int → List (List Int)
  | 0, pre => [pre]
  | m + 1, pre => (if okv φ pre.length 0 then vis φ m (pre ++ [0]) else []) ++ (if okv φ pre.length 1 then vis φ m (pre ++ [1]) else [])

/-- What the closures know of memory: where the parts lie, and what a visit does. -/
structure Env (p t : List (List Int)) (n N V X M S g : Nat) (caps : List AV) (mapv : AV) (φ : Int → Option Int) (T : List (List Int)) (G : List (List Int) → List Int → Hp → Prop) : Prop where
  len : ∀ {d xs h}, G d xs h → xs.length = 10
  bN : ∀ {d xs h}, G d xs h → h.bl N = some (.cells false false [LLI p, LLI t, I n])
  bV : ∀ {d xs h}, G d xs h → h.bl V = some (.cells false false [.fn g caps])
  bX : ∀ {d xs h}, G d xs h → h.bl X = some (.cells false false (xs.flatMap (e1 I)))
  bM : ∀ {d xs h}, G d xs h → h.bl M = some (.cells false false [mapv])
  bS : ∀ {d xs h}, G d xs h → h.bl S = some (.cells false false [.fn 47 [.ptr N 0, .ptr V 0, .ptr X 0, .ptr M 0, .ptr S 0]])
  lk : ∀ {d xs h}, G d xs h → ∀ k : Int, lookB (some (.map 3 3)) (some (.int .i64)) (some (I 0)) mapv (h.bl (mpId mapv)) true (I k) true = some (.tup [I ((φ k).getD 0), .bool (φ k).isSome])
  set : ∀ {d xs h}, G d xs h → ∀ i v, i < 10 → G d (xs.set i v) (h.put X (some (.cells false false ((xs.set i v).flatMap (e1 I)))))
  shr : cfg.shared g = true
  visit : ∀ {d xs h}, G d xs h → ∀ w : List Int, w.length = n → xs = ten w → (d ++ [w]) <+: T → ∃ h', Shr Try.prog cfg g (.agg (xs.flatMap (e1 I)) :: caps) h (.tup []) h' ∧ G (d ++ [w]) xs h'

/-- The values chosen so far stand in front, zeros at the end. -/
def Pre (n : Nat) (pre xs : List Int) : Prop := (∀ j, j < pre.length → nth xs j = nth pre j) ∧ ∀ j, n ≤ j → j < 10 → nth xs j = 0
theorem Pre.full {n : Nat} {pre xs : List Int} (hl : pre.length = n) (hn : n ≤ 10) (hx : xs.length = 10) (h : Pre n pre xs) : xs = ten pre := by
  refine List.ext_getElem (by rw [hx, ten_len (by omega)]) fun j h1 h2 => ?_
  rw [← nth_getElem h1, ← nth_getElem h2]
  by_cases hj : j < pre.length
  · rw [h.1 j hj, ten_nth hj]
  · rw [h.2 j (by omega) (by omega)]
    unfold ten
    rw [nth, List.getElem?_append_right (by omega), List.getElem?_drop, List.getElem?_replicate]
    split <;> rfl
theorem Pre.snoc {n : Nat} {pre xs : List Int} {i : Nat} {x : Int} (hx : xs.length = 10) (hl : pre.length = i) (hi : i < n) (hn : n ≤ 10) (h : Pre n pre xs) : Pre n (pre ++ [x]) (xs.set i x) := by
  refine ⟨fun j hj => ?_, fun j h1 h2 => ?_⟩
  · rw [nth_set _ _ _ _ (by omega)]
    simp only [List.length_append, List.length_singleton] at hj
    by_cases he : i = j
    · subst he; rw [if_pos rfl, ← hl, nth, List.getElem?_append_right (Nat.le_refl _)]; simp
    · rw [if_neg he, h.1 j (by omega), nth_append_left _ _ _ (by omega)]
  · rw [nth_set _ _ _ _ (by omega), if_neg (by omega)]; exact h.2 j h1 h2
theorem Pre.back {n : Nat} {pre xs : List Int} {x : Int} (h : Pre n (pre ++ [x]) xs) : Pre n pre xs :=
  ⟨fun j hj => by rw [h.1 j (by simp; omega), nth_append_left _ _ _ hj], h.2⟩

theorem f77_shr {p t : List (List Int)} {n N V X M S g : Nat} {caps : List AV} {mapv : AV} {φ : Int → Option Int} {T : List (List Int)} {G : List (List Int) → List Int → Hp → Prop} (E : Env p t n N V X M S g caps mapv φ T G) (hn : n ≤ 10) :
    ∀ (m i : Nat) (pre xs : List Int) (d : List (List Int)) (h : Hp), pre.length = i → i + m = n → Pre n pre xs → (d ++ vis φ m pre) <+: T → G d xs h →
      ∃ h', Shr Try.prog cfg 47 [I i, .ptr N 0, .ptr V 0, .ptr X 0, .ptr M 0, .ptr S 0] h (.tup []) h' ∧ ∃ xs', Pre n pre xs' ∧ G (d ++ vis φ m pre) xs' h' := by
  intro m
  induction m with
  | zero =>
    intro i pre xs d h hl him hpre hT hg
    have hin : i = n := by omega
    subst hin
    obtain ⟨h', hs, hg'⟩ := E.visit hg pre hl (hpre.full hl hn (E.len hg)) hT
    suffices hh : ∃ v h', Shr Try.prog cfg 47 [I i, .ptr N 0, .ptr V 0, .ptr X 0, .ptr M 0, .ptr S 0] h v h' ∧ (v = .tup [] ∧ ∃ xs', Pre i pre xs' ∧ G (d ++ vis φ 0 pre) xs' h') by
      obtain ⟨v, h', hs, rfl, r⟩ := hh
      exact ⟨h', hs, r⟩
    have hbN := E.bN hg
    have hbV := E.bV hg
    have hbX := E.bX hg
    have hld := loadC_flat xs (E.len hg)
    have hc := fun K => CallW_shr (K := K) g _ E.shr hs
    refine Shr_intro Try.func47 rfl ok77 (Nat.le_of_ble_eq_true rfl) ?_
    simp only [Try.f47, Option.getD_some, initSt6]
    simp (disch := first | (simp only [go_sem, Bool.and_self, eq_self]; done) | omega | (simp only [List.length_cons, List.length_nil]; omega)) only [go_sem, ↓reduceIte, Nat.reduceEqDiff, Nat.reduceAdd, Nat.reduceMul, Nat.reduceSub, Int.reduceToNat, Nat.reduceBEq, List.size_toArray, List.length_cons, List.length_nil, Bool.false_and, Bool.true_and, Bool.or_false, Bool.false_or, Bool.and_false, Bool.and_true, hbN, hbV, hbX, hld, List.cons_append, List.nil_append, hc]
    exact ⟨xs, hpre, hg'⟩
  | succ m ih =>
    intro i pre xs d h hl him hpre hT hg
    suffices hh : ∃ v h', Shr Try.prog cfg 47 [I i, .ptr N 0, .ptr V 0, .ptr X 0, .ptr M 0, .ptr S 0] h v h' ∧ (v = .tup [] ∧ ∃ xs', Pre n pre xs' ∧ G (d ++ vis φ (m + 1) pre) xs' h') by
      obtain ⟨v, h', hs, rfl, r⟩ := hh
      exact ⟨h', hs, r⟩
    have hbN := E.bN hg
    have hne : ¬ (i : Int) = n := by omega
    refine Shr_intro Try.func47 rfl ok77 (Nat.le_of_ble_eq_true rfl) ?_
    simp only [Try.f47, Option.getD_some, initSt6]
    simp (disch := first | (simp only [go_sem, Bool.and_self, eq_self]; done) | omega | (simp only [List.length_cons, List.length_nil]; omega)) only [go_sem, ↓reduceIte, Nat.reduceEqDiff, Nat.reduceAdd, Nat.reduceMul, Nat.reduceSub, Int.reduceToNat, Nat.reduceBEq, List.size_toArray, List.length_cons, List.length_nil, Bool.false_and, Bool.true_and, Bool.or_false, Bool.false_or, Bool.and_false, Bool.and_true, hbN, hne]
    refine WP_for 17 2 (fun k st h => st 0 = I i ∧ st 1 = .ptr N 0 ∧ st 2 = .ptr V 0 ∧ st 3 = .ptr X 0 ∧ st 4 = .ptr M 0 ∧ st 5 = .ptr S 0 ∧ ∃ xs', Pre n pre xs' ∧ G (d ++ ((if 0 < k ∧ okv φ i 0 = true then vis φ m (pre ++ [0]) else []) ++ (if 1 < k ∧ okv φ i 1 = true then vis φ m (pre ++ [1]) else []))) xs' h) (by simp (disch := first | (simp only [go_sem, Bool.and_self, eq_self]; done) | omega | (simp only [List.length_cons, List.length_nil]; omega)) only [go_sem, ↓reduceIte, Nat.reduceEqDiff, Nat.reduceAdd, Nat.reduceMul, Nat.reduceSub, Int.reduceToNat, Nat.reduceBEq, List.size_toArray, List.length_cons, List.length_nil, Bool.false_and, Bool.true_and, Bool.or_false, Bool.false_or, Bool.and_false, Bool.and_true]) ⟨by simp (disch := first | (simp only [go_sem, Bool.and_self, eq_self]; done) | omega | (simp only [List.length_cons, List.length_nil]; omega)) only [go_sem, ↓reduceIte, Nat.reduceEqDiff, Nat.reduceAdd, Nat.reduceMul, Nat.reduceSub, Int.reduceToNat, Nat.reduceBEq, List.size_toArray, List.length_cons, List.length_nil, Bool.false_and, Bool.true_and, Bool.or_false, Bool.false_or, Bool.and_false, Bool.and_true], by simp (disch := first | (simp only [go_sem, Bool.and_self, eq_self]; done) | omega | (simp only [List.length_cons, List.length_nil]; omega)) only [go_sem, ↓reduceIte, Nat.reduceEqDiff, Nat.reduceAdd, Nat.reduceMul, Nat.reduceSub, Int.reduceToNat, Nat.reduceBEq, List.size_toArray, List.length_cons, List.length_nil, Bool.false_and, Bool.true_and, Bool.or_false, Bool.false_or, Bool.and_false, Bool.and_true], by simp (disch := first | (simp only [go_sem, Bool.and_self, eq_self]; done) | omega | (simp only [List.length_cons, List.length_nil]; omega)) only [go_sem, ↓reduceIte, Nat.reduceEqDiff, Nat.reduceAdd, Nat.reduceMul, Nat.reduceSub, Int.reduceToNat, Nat.reduceBEq, List.size_toArray, List.length_cons, List.length_nil, Bool.false_and, Bool.true_and, Bool.or_false, Bool.false_or, Bool.and_false, Bool.and_true], by simp (disch := first | (simp only [go_sem, Bool.and_self, eq_self]; done) | omega | (simp only [List.length_cons, List.length_nil]; omega)) only [go_sem, ↓reduceIte, Nat.reduceEqDiff, Nat.reduceAdd, Nat.reduceMul, Nat.reduceSub, Int.reduceToNat, Nat.reduceBEq, List.size_toArray, List.length_cons, List.length_nil, Bool.false_and, Bool.true_and, Bool.or_false, Bool.false_or, Bool.and_false, Bool.and_true], by simp (disch := first | (simp only [go_sem, Bool.and_self, eq_self]; done) | omega | (simp only [List.length_cons, List.length_nil]; omega)) only [go_sem, ↓reduceIte, Nat.reduceEqDiff, Nat.reduceAdd, Nat.reduceMul, Nat.reduceSub, Int.reduceToNat, Nat.reduceBEq, List.size_toArray, List.length_cons, List.length_nil, Bool.false_and, Bool.true_and, Bool.or_false, Bool.false_or, Bool.and_false, Bool.and_true], by simp (disch := first | (simp only [go_sem, Bool.and_self, eq_self]; done) | omega | (simp only [List.length_cons, List.length_nil]; omega)) only [go_sem, ↓reduceIte, Nat.reduceEqDiff, Nat.reduceAdd, Nat.reduceMul, Nat.reduceSub, Int.reduceToNat, Nat.reduceBEq, List.size_toArray, List.length_cons, List.length_nil, Bool.false_and, Bool.true_and, Bool.or_false, Bool.false_or, Bool.and_false, Bool.and_true], xs, hpre, by simpa using hg⟩ ?_
    rintro k st h hk s17 ⟨s0, s1, s2, s3, s4, s5, xs, hpre, hg⟩
    by_cases hk2 : (k : Int) < 2
    case neg =>
      have hkk : k = 2 := by omega
      subst hkk
      simp (disch := first | (simp only [go_sem, Bool.and_self, eq_self]; done) | omega | (simp only [List.length_cons, List.length_nil]; omega)) only [go_sem, ↓reduceIte, Nat.reduceEqDiff, Nat.reduceAdd, Nat.reduceMul, Nat.reduceSub, Int.reduceToNat, Nat.reduceBEq, List.size_toArray, List.length_cons, List.length_nil, Bool.false_and, Bool.true_and, Bool.or_false, Bool.false_or, Bool.and_false, Bool.and_true, s0, s1, s2, s3, s4, s5, s17, hk2]
      refine ⟨xs, hpre, ?_⟩
      simp only [vis, hl]
      simpa using hg
    have hbM := E.bM hg
    have hlk := E.lk hg i
    have hbX := E.bX hg
    have hbS := E.bS hg
    have hxl := E.len hg
    have hi10 : i < 10 := by omega
    have hSX : ¬ S = X := by
      rintro rfl
      rw [hbX] at hbS
      have := congrArg (fun b => match b with | some (Blk.cells _ _ f) => f.length | _ => 0) hbS
      simp only [flat_len, hxl, List.length_singleton] at this
      omega
    have hcast : ((i + 1 : Nat) : Int) = (i : Int) + 1 := by omega
    have go : okv φ i k = true → ∃ h2 xs2, Shr Try.prog cfg 47 [I ((i : Int) + 1), .ptr N 0, .ptr V 0, .ptr X 0, .ptr M 0, .ptr S 0] (h.put X (some (.cells false false ((xs.set i (k : Int)).flatMap (e1 I))))) (.tup []) h2 ∧ Pre n pre xs2 ∧
        G (d ++ ((if 0 < k + 1 ∧ okv φ i 0 = true then vis φ m (pre ++ [0]) else []) ++ (if 1 < k + 1 ∧ okv φ i 1 = true then vis φ m (pre ++ [1]) else []))) xs2 h2 := by
      intro hok
      have hTk : (d ++ ((if 0 < k ∧ okv φ i 0 = true then vis φ m (pre ++ [0]) else []) ++ (if 1 < k ∧ okv φ i 1 = true then vis φ m (pre ++ [1]) else []))) ++ vis φ m (pre ++ [(k : Int)]) <+: T := by
        refine List.IsPrefix.trans ?_ hT
        simp only [vis, hl]
        have : k = 0 ∨ k = 1 := by omega
        rcases this with rfl | rfl
        · have hok' : okv φ i 0 = true := hok
          simp [hok']
        · have hok' : okv φ i 1 = true := hok
          simp [hok', List.append_assoc]
      obtain ⟨h2, hs2, xs2, hp2, hg2⟩ := ih (i + 1) (pre ++ [(k : Int)]) (xs.set i k) _ _ (by simp [hl]) (by omega) (hpre.snoc hxl hl (by omega) hn) hTk (E.set hg i k hi10)
      rw [hcast] at hs2
      refine ⟨h2, xs2, hs2, hp2.back, ?_⟩
      have : k = 0 ∨ k = 1 := by omega
      rcases this with rfl | rfl
      · have hok' : okv φ i 0 = true := hok
        simpa [hok'] using hg2
      · have hok' : okv φ i 1 = true := hok
        simpa [hok', List.append_assoc] using hg2
    have skip : okv φ i k = false → G (d ++ ((if 0 < k + 1 ∧ okv φ i 0 = true then vis φ m (pre ++ [0]) else []) ++ (if 1 < k + 1 ∧ okv φ i 1 = true then vis φ m (pre ++ [1]) else []))) xs h := by
      intro hok
      have : k = 0 ∨ k = 1 := by omega
      rcases this with rfl | rfl
      · have hok' : okv φ i 0 = false := hok
        simpa [hok'] using hg
      · have hok' : okv φ i 1 = false := hok
        simpa [hok'] using hg
    cases hφ : φ i with
    | none =>
      rw [hφ] at hlk
      simp only [Option.getD_none, Option.isSome_none] at hlk
      obtain ⟨h2, xs2, hs2, hp2, hg2⟩ := go (by simp [okv, hφ])
      have hc := fun K => CallW_shr (K := K) 47 _ shr77 hs2
      simp (disch := first | (simp only [go_sem, Bool.and_self, eq_self]; done) | omega | (simp only [List.length_cons, List.length_nil]; omega)) only [go_sem, ↓reduceIte, Nat.reduceEqDiff, Nat.reduceAdd, Nat.reduceMul, Nat.reduceSub, Int.reduceToNat, Nat.reduceBEq, List.size_toArray, List.length_cons, List.length_nil, Bool.false_and, Bool.true_and, Bool.or_false, Bool.false_or, Bool.and_false, Bool.and_true, s0, s1, s2, s3, s4, s5, s17, hk2, hbM, hlk, hbX, hbS, hSX, hxl, hi10, List.cons_append, List.nil_append, hc]
      rw [ForK_normal]
      exact ⟨by omega, by simp (disch := first | (simp only [go_sem, Bool.and_self, eq_self]; done) | omega | (simp only [List.length_cons, List.length_nil]; omega)) only [go_sem, ↓reduceIte, Nat.reduceEqDiff, Nat.reduceAdd, Nat.reduceMul, Nat.reduceSub, Int.reduceToNat, Nat.reduceBEq, List.size_toArray, List.length_cons, List.length_nil, Bool.false_and, Bool.true_and, Bool.or_false, Bool.false_or, Bool.and_false, Bool.and_true, s17], by simp (disch := first | (simp only [go_sem, Bool.and_self, eq_self]; done) | omega | (simp only [List.length_cons, List.length_nil]; omega)) only [go_sem, ↓reduceIte, Nat.reduceEqDiff, Nat.reduceAdd, Nat.reduceMul, Nat.reduceSub, Int.reduceToNat, Nat.reduceBEq, List.size_toArray, List.length_cons, List.length_nil, Bool.false_and, Bool.true_and, Bool.or_false, Bool.false_or, Bool.and_false, Bool.and_true, s0], by simp (disch := first | (simp only [go_sem, Bool.and_self, eq_self]; done) | omega | (simp only [List.length_cons, List.length_nil]; omega)) only [go_sem, ↓reduceIte, Nat.reduceEqDiff, Nat.reduceAdd, Nat.reduceMul, Nat.reduceSub, Int.reduceToNat, Nat.reduceBEq, List.size_toArray, List.length_cons, List.length_nil, Bool.false_and, Bool.true_and, Bool.or_false, Bool.false_or, Bool.and_false, Bool.and_true, s1], by simp (disch := first | (simp only [go_sem, Bool.and_self, eq_self]; done) | omega | (simp only [List.length_cons, List.length_nil]; omega)) only [go_sem, ↓reduceIte, Nat.reduceEqDiff, Nat.reduceAdd, Nat.reduceMul, Nat.reduceSub, Int.reduceToNat, Nat.reduceBEq, List.size_toArray, List.length_cons, List.length_nil, Bool.false_and, Bool.true_and, Bool.or_false, Bool.false_or, Bool.and_false, Bool.and_true, s2], by simp (disch := first | (simp only [go_sem, Bool.and_self, eq_self]; done) | omega | (simp only [List.length_cons, List.length_nil]; omega)) only [go_sem, ↓reduceIte, Nat.reduceEqDiff, Nat.reduceAdd, Nat.reduceMul, Nat.reduceSub, Int.reduceToNat, Nat.reduceBEq, List.size_toArray, List.length_cons, List.length_nil, Bool.false_and, Bool.true_and, Bool.or_false, Bool.false_or, Bool.and_false, Bool.and_true, s3], by simp (disch := first | (simp only [go_sem, Bool.and_self, eq_self]; done) | omega | (simp only [List.length_cons, List.length_nil]; omega)) only [go_sem, ↓reduceIte, Nat.reduceEqDiff, Nat.reduceAdd, Nat.reduceMul, Nat.reduceSub, Int.reduceToNat, Nat.reduceBEq, List.size_toArray, List.length_cons, List.length_nil, Bool.false_and, Bool.true_and, Bool.or_false, Bool.false_or, Bool.and_false, Bool.and_true, s4], by simp (disch := first | (simp only [go_sem, Bool.and_self, eq_self]; done) | omega | (simp only [List.length_cons, List.length_nil]; omega)) only [go_sem, ↓reduceIte, Nat.reduceEqDiff, Nat.reduceAdd, Nat.reduceMul, Nat.reduceSub, Int.reduceToNat, Nat.reduceBEq, List.size_toArray, List.length_cons, List.length_nil, Bool.false_and, Bool.true_and, Bool.or_false, Bool.false_or, Bool.and_false, Bool.and_true, s5], xs2, hp2, hg2⟩
    | some y =>
      rw [hφ] at hlk
      simp only [Option.getD_some, Option.isSome_some] at hlk
      by_cases hy : y = k
      · obtain ⟨h2, xs2, hs2, hp2, hg2⟩ := go (by simp [okv, hφ, hy])
        have hc := fun K => CallW_shr (K := K) 47 _ shr77 hs2
        simp (disch := first | (simp only [go_sem, Bool.and_self, eq_self]; done) | omega | (simp only [List.length_cons, List.length_nil]; omega)) only [go_sem, ↓reduceIte, Nat.reduceEqDiff, Nat.reduceAdd, Nat.reduceMul, Nat.reduceSub, Int.reduceToNat, Nat.reduceBEq, List.size_toArray, List.length_cons, List.length_nil, Bool.false_and, Bool.true_and, Bool.or_false, Bool.false_or, Bool.and_false, Bool.and_true, s0, s1, s2, s3, s4, s5, s17, hk2, hbM, hlk, hy, hbX, hbS, hSX, hxl, hi10, List.cons_append, List.nil_append, hc]
        rw [ForK_normal]
        exact ⟨by omega, by simp (disch := first | (simp only [go_sem, Bool.and_self, eq_self]; done) | omega | (simp only [List.length_cons, List.length_nil]; omega)) only [go_sem, ↓reduceIte, Nat.reduceEqDiff, Nat.reduceAdd, Nat.reduceMul, Nat.reduceSub, Int.reduceToNat, Nat.reduceBEq, List.size_toArray, List.length_cons, List.length_nil, Bool.false_and, Bool.true_and, Bool.or_false, Bool.false_or, Bool.and_false, Bool.and_true, s17], by simp (disch := first | (simp only [go_sem, Bool.and_self, eq_self]; done) | omega | (simp only [List.length_cons, List.length_nil]; omega)) only [go_sem, ↓reduceIte, Nat.reduceEqDiff, Nat.reduceAdd, Nat.reduceMul, Nat.reduceSub, Int.reduceToNat, Nat.reduceBEq, List.size_toArray, List.length_cons, List.length_nil, Bool.false_and, Bool.true_and, Bool.or_false, Bool.false_or, Bool.and_false, Bool.and_true, s0], by simp (disch := first | (simp only [go_sem, Bool.and_self, eq_self]; done) | omega | (simp only [List.length_cons, List.length_nil]; omega)) only [go_sem, ↓reduceIte, Nat.reduceEqDiff, Nat.reduceAdd, Nat.reduceMul, Nat.reduceSub, Int.reduceToNat, Nat.reduceBEq, List.size_toArray, List.length_cons, List.length_nil, Bool.false_and, Bool.true_and, Bool.or_false, Bool.false_or, Bool.and_false, Bool.and_true, s1], by simp (disch := first | (simp only [go_sem, Bool.and_self, eq_self]; done) | omega | (simp only [List.length_cons, List.length_nil]; omega)) only [go_sem, ↓reduceIte, Nat.reduceEqDiff, Nat.reduceAdd, Nat.reduceMul, Nat.reduceSub, Int.reduceToNat, Nat.reduceBEq, List.size_toArray, List.length_cons, List.length_nil, Bool.false_and, Bool.true_and, Bool.or_false, Bool.false_or, Bool.and_false, Bool.and_true, s2], by simp (disch := first | (simp only [go_sem, Bool.and_self, eq_self]; done) | omega | (simp only [List.length_cons, List.length_nil]; omega)) only [go_sem, ↓reduceIte, Nat.reduceEqDiff, Nat.reduceAdd, Nat.reduceMul, Nat.reduceSub, Int.reduceToNat, Nat.reduceBEq, List.size_toArray, List.length_cons, List.length_nil, Bool.false_and, Bool.true_and, Bool.or_false, Bool.false_or, Bool.and_false, Bool.and_true, s3], by simp (disch := first | (simp only [go_sem, Bool.and_self, eq_self]; done) | omega | (simp only [List.length_cons, List.length_nil]; omega)) only [go_sem, ↓reduceIte, Nat.reduceEqDiff, Nat.reduceAdd, Nat.reduceMul, Nat.reduceSub, Int.reduceToNat, Nat.reduceBEq, List.size_toArray, List.length_cons, List.length_nil, Bool.false_and, Bool.true_and, Bool.or_false, Bool.false_or, Bool.and_false, Bool.and_true, s4], by simp (disch := first | (simp only [go_sem, Bool.and_self, eq_self]; done) | omega | (simp only [List.length_cons, List.length_nil]; omega)) only [go_sem, ↓reduceIte, Nat.reduceEqDiff, Nat.reduceAdd, Nat.reduceMul, Nat.reduceSub, Int.reduceToNat, Nat.reduceBEq, List.size_toArray, List.length_cons, List.length_nil, Bool.false_and, Bool.true_and, Bool.or_false, Bool.false_or, Bool.and_false, Bool.and_true, s5], xs2, hp2, hg2⟩
      · have hg2 := skip (by simp [okv, hφ, hy])
        simp (disch := first | (simp only [go_sem, Bool.and_self, eq_self]; done) | omega | (simp only [List.length_cons, List.length_nil]; omega)) only [go_sem, ↓reduceIte, Nat.reduceEqDiff, Nat.reduceAdd, Nat.reduceMul, Nat.reduceSub, Int.reduceToNat, Nat.reduceBEq, List.size_toArray, List.length_cons, List.length_nil, Bool.false_and, Bool.true_and, Bool.or_false, Bool.false_or, Bool.and_false, Bool.and_true, s0, s1, s2, s3, s4, s5, s17, hk2, hbM, hlk, hy, hbX, hbS, hSX, hxl, hi10]
        rw [ForK_normal]
        exact ⟨by omega, by simp (disch := first | (simp only [go_sem, Bool.and_self, eq_self]; done) | omega | (simp only [List.length_cons, List.length_nil]; omega)) only [go_sem, ↓reduceIte, Nat.reduceEqDiff, Nat.reduceAdd, Nat.reduceMul, Nat.reduceSub, Int.reduceToNat, Nat.reduceBEq, List.size_toArray, List.length_cons, List.length_nil, Bool.false_and, Bool.true_and, Bool.or_false, Bool.false_or, Bool.and_false, Bool.and_true, s17], by simp (disch := first | (simp only [go_sem, Bool.and_self, eq_self]; done) | omega | (simp only [List.length_cons, List.length_nil]; omega)) only [go_sem, ↓reduceIte, Nat.reduceEqDiff, Nat.reduceAdd, Nat.reduceMul, Nat.reduceSub, Int.reduceToNat, Nat.reduceBEq, List.size_toArray, List.length_cons, List.length_nil, Bool.false_and, Bool.true_and, Bool.or_false, Bool.false_or, Bool.and_false, Bool.and_true, s0], by simp (disch := first | (simp only [go_sem, Bool.and_self, eq_self]; done) | omega | (simp only [List.length_cons, List.length_nil]; omega)) only [go_sem, ↓reduceIte, Nat.reduceEqDiff, Nat.reduceAdd, Nat.reduceMul, Nat.reduceSub, Int.reduceToNat, Nat.reduceBEq, List.size_toArray, List.length_cons, List.length_nil, Bool.false_and, Bool.true_and, Bool.or_false, Bool.false_or, Bool.and_false, Bool.and_true, s1], by simp (disch := first | (simp only [go_sem, Bool.and_self, eq_self]; done) | omega | (simp only [List.length_cons, List.length_nil]; omega)) only [go_sem, ↓reduceIte, Nat.reduceEqDiff, Nat.reduceAdd, Nat.reduceMul, Nat.reduceSub, Int.reduceToNat, Nat.reduceBEq, List.size_toArray, List.length_cons, List.length_nil, Bool.false_and, Bool.true_and, Bool.or_false, Bool.false_or, Bool.and_false, Bool.and_true, s2], by simp (disch := first | (simp only [go_sem, Bool.and_self, eq_self]; done) | omega | (simp only [List.length_cons, List.length_nil]; omega)) only [go_sem, ↓reduceIte, Nat.reduceEqDiff, Nat.reduceAdd, Nat.reduceMul, Nat.reduceSub, Int.reduceToNat, Nat.reduceBEq, List.size_toArray, List.length_cons, List.length_nil, Bool.false_and, Bool.true_and, Bool.or_false, Bool.false_or, Bool.and_false, Bool.and_true, s3], by simp (disch := first | (simp only [go_sem, Bool.and_self, eq_self]; done) | omega | (simp only [List.length_cons, List.length_nil]; omega)) only [go_sem, ↓reduceIte, Nat.reduceEqDiff, Nat.reduceAdd, Nat.reduceMul, Nat.reduceSub, Int.reduceToNat, Nat.reduceBEq, List.size_toArray, List.length_cons, List.length_nil, Bool.false_and, Bool.true_and, Bool.or_false, Bool.false_or, Bool.and_false, Bool.and_true, s4], by simp (disch := first | (simp only [go_sem, Bool.and_self, eq_self]; done) | omega | (simp only [List.length_cons, List.length_nil]; omega)) only [go_sem, ↓reduceIte, Nat.reduceEqDiff, Nat.reduceAdd, Nat.reduceMul, Nat.reduceSub, Int.reduceToNat, Nat.reduceBEq, List.size_toArray, List.length_cons, List.length_nil, Bool.false_and, Bool.true_and, Bool.or_false, Bool.false_or, Bool.and_false, Bool.and_true, s5], xs, hpre, hg2⟩

end Go.Proofs.Ytihnplomlphfjaa.B

set_option linter.unusedVariables false
set_option linter.unusedSimpArgs false
set_option maxRecDepth 10000
namespace Go.Proofs.Ytihnplomlphfjaa.B
open Go Go.Am

variable {h h' : Hp} {K : AV → Hp → Prop}

theorem vis_len (φ : Int → Option Int) : ∀ (m : Nat) (pre : List Int), (vis φ m pre).length ≤ 2 ^ m
  | 0, pre => by simp [vis]
  | m + 1, pre => by
    have h1 := vis_len φ m (pre ++ [0])
    have h2 := vis_len φ m (pre ++ [1])
    simp only [vis, List.length_append, Nat.pow_succ]
    split <;> split <;> simp <;> omega
theorem vis_mem (φ : Int → Option Int) : ∀ (m : Nat) (pre w : List Int), w ∈ vis φ m pre → (∀ j, j < pre.length → nth pre j = 0 ∨ nth pre j = 1) → w.length = pre.length + m ∧ ∀ j, j < w.length → nth w j = 0 ∨ nth w j = 1
  | 0, pre, w, hw, hp => by
    simp only [vis, List.mem_singleton] at hw
    subst hw; exact ⟨rfl, hp⟩
  | m + 1, pre, w, hw, hp => by
    simp only [vis, List.mem_append] at hw
    have snoc : ∀ x : Int, x = 0 ∨ x = 1 → ∀ j, j < (pre ++ [x]).length → nth (pre ++ [x]) j = 0 ∨ nth (pre ++ [x]) j = 1 := by
      intro x hx j hj
      simp only [List.length_append, List.length_singleton] at hj
      by_cases he : j < pre.length
      · rw [nth_append_left _ _ _ he]; exact hp j he
      · rw [show j = pre.length by omega, nth, List.getElem?_append_right (Nat.le_refl _)]; simpa using hx
    rcases hw with hw | hw
    · split at hw
      · have := vis_mem φ m _ w hw (snoc 0 (.inl rfl))
        simp only [List.length_append, List.length_singleton] at this
        exact ⟨by omega, this.2⟩
      · cases hw
    · split at hw
      · have := vis_mem φ m _ w hw (snoc 1 (.inr rfl))
        simp only [List.length_append, List.length_singleton] at this
        exact ⟨by omega, this.2⟩
      · cases hw

theorem f64_shr {p t : List (List Int)} {n g : Nat} {caps : List AV} {mapv : AV} {φ : Int → Option Int} {G : List (List Int) → List Int → Hp → Prop} {H : Hp}
    (E : Env p t n H.nx (H.nx + 2) (H.nx + 3) (H.nx + 1) (H.nx + 4) g caps mapv φ (vis φ n []) G) (hn : n ≤ 10)
    (hal : ∀ g : Hp, allocB g (some mapv) = some (.ptr g.nx 0, g.alloc (.cells false false [mapv])))
    (hG : ∀ h5 : Hp, h5.nx = H.nx + 5 → (∀ id, id < H.nx → h5.bl id = H.bl id) → h5.bl H.nx = some (.cells false false [LLI p, LLI t, I n]) → h5.bl (H.nx + 1) = some (.cells false false [mapv]) → h5.bl (H.nx + 2) = some (.cells false false [.fn g caps]) →
      h5.bl (H.nx + 3) = some (.cells false false ((List.replicate 10 (0 : Int)).flatMap (e1 I))) → h5.bl (H.nx + 4) = some (.cells false false [.fn 47 [.ptr H.nx 0, .ptr (H.nx + 2) 0, .ptr (H.nx + 3) 0, .ptr (H.nx + 1) 0, .ptr (H.nx + 4) 0]]) → G [] (List.replicate 10 0) h5) :
    ∃ h', Shr Try.prog cfg 43 [.agg [LLI p, LLI t, I n], mapv, .fn g caps] H (.tup []) h' ∧ ∃ xs', G (vis φ n []) xs' h' := by
  suffices hh : ∃ v h', Shr Try.prog cfg 43 [.agg [LLI p, LLI t, I n], mapv, .fn g caps] H v h' ∧ (v = .tup [] ∧ ∃ xs', G (vis φ n []) xs' h') by
    obtain ⟨v, h', hs, rfl, r⟩ := hh
    exact ⟨h', hs, r⟩
  have hal2 : ∀ g' : Hp, allocB g' (some (.fn g caps)) = some (.ptr g'.nx 0, g'.alloc (.cells false false [.fn g caps])) := fun _ => rfl
  have hal3 := fun h => allocB_flat (h := h) (List.replicate 10 (0 : Int))
  let h5 : Hp := (((((H.alloc (.cells false false [LLI p, LLI t, I n])).alloc (.cells false false [mapv])).alloc (.cells false false [.fn g caps])).alloc (.cells false false ((List.replicate 10 (0 : Int)).flatMap (e1 I)))).alloc (.cells false false [.nilfn])).put (H.nx + 4) (some (.cells false false [.fn 47 [.ptr H.nx 0, .ptr (H.nx + 2) 0, .ptr (H.nx + 3) 0, .ptr (H.nx + 1) 0, .ptr (H.nx + 4) 0]]))
  have hg : G [] (List.replicate 10 0) h5 := by
    refine hG h5 rfl (fun id hid => ?_) ?_ ?_ ?_ ?_ ?_
    · simp [h5, Hp.put, Hp.alloc, show id ≠ H.nx by omega, show id ≠ H.nx + 1 by omega, show id ≠ H.nx + 2 by omega, show id ≠ H.nx + 3 by omega, show id ≠ H.nx + 4 by omega]
    · simp [h5, Hp.put, Hp.alloc, show ¬ H.nx = H.nx + 1 + 1 + 1 + 1 by omega, show ¬ H.nx = H.nx + 1 + 1 + 1 by omega, show ¬ H.nx = H.nx + 1 + 1 by omega]
    · simp [h5, Hp.put, Hp.alloc]
    · simp [h5, Hp.put, Hp.alloc]
    · simp [h5, Hp.put, Hp.alloc]
    · simp [h5, Hp.put, Hp.alloc]
  obtain ⟨h', hs, xs', _, hg'⟩ := f77_shr E hn n 0 [] (List.replicate 10 0) [] h5 rfl (by omega) ⟨by simp, fun j h1 h2 => by rw [nth, List.getElem?_replicate]; split <;> rfl⟩ (by simp) hg
  have hc := fun K => CallW_shr (K := K) 47 _ shr77 hs
  refine Shr_intro Try.func43 rfl ok64 (Nat.le_of_ble_eq_true rfl) ?_
  simp only [Try.f43, Option.getD_some, initSt3]
  simp (disch := first | (simp only [go_sem, Bool.and_self, eq_self]; done) | omega | (simp only [List.length_cons, List.length_nil]; omega)) only [go_sem, ↓reduceIte, Nat.reduceEqDiff, Nat.reduceAdd, Nat.reduceMul, Nat.reduceSub, Int.reduceToNat, Nat.reduceBEq, List.size_toArray, List.length_cons, List.length_nil, Bool.false_and, Bool.true_and, Bool.or_false, Bool.false_or, Bool.and_false, Bool.and_true, hal, hal2, z10, hal3]
  refine Eq.mpr (hc _) ?_
  simp (disch := first | (simp only [go_sem, Bool.and_self, eq_self]; done) | omega | (simp only [List.length_cons, List.length_nil]; omega)) only [go_sem, ↓reduceIte, Nat.reduceEqDiff, Nat.reduceAdd, Nat.reduceMul, Nat.reduceSub, Int.reduceToNat, Nat.reduceBEq, List.size_toArray, List.length_cons, List.length_nil, Bool.false_and, Bool.true_and, Bool.or_false, Bool.false_or, Bool.and_false, Bool.and_true]
  exact ⟨xs', hg'⟩

/-- The weights of a list of rows, together. -/
def sumW (p t : List (List Int)) (d : List (List Int)) : Int := (d.map fun w => weightB p t w p.length).sum
theorem sumW_snoc (p t : List (List Int)) (d : List (List Int)) (w : List Int) : sumW p t (d ++ [w]) = sumW p t d + weightB p t w p.length := by simp [sumW]
theorem sumW_bounds {p t : List (List Int)} (N : Net p t) : ∀ (d : List (List Int)), 0 ≤ sumW p t d ∧ sumW p t d ≤ d.length * 1099511627776
  | [] => by simp [sumW]
  | w :: d => by
    have h1 := sumW_bounds N d
    have h2 := weight_bounds N w (Nat.le_refl _)
    have h3 := pow16_le (Nat.le_refl p.length) N.n1.2
    simp only [sumW, List.map_cons, List.sum_cons, List.length_cons] at h1 ⊢
    omega

/-- The memory of 'sum' after some visits. -/
structure SumG (p t : List (List Int)) (n : Nat) (mapv : AV) (d : List (List Int)) (xs : List Int) (h : Hp) : Prop where
  nx : 7 ≤ h.nx
  len : xs.length = 10
  b0 : h.bl 0 = some (.cells false false [LLI p, LLI t, I n])
  b1 : h.bl 1 = some (.cells false false [I (sumW p t d)])
  b2 : h.bl 2 = some (.cells false false [LLI p, LLI t, I n])
  b3 : h.bl 3 = some (.cells false false [mapv])
  b4 : h.bl 4 = some (.cells false false [.fn 44 [.ptr 1 0, .ptr 0 0]])
  b5 : h.bl 5 = some (.cells false false (xs.flatMap (e1 I)))
  b6 : h.bl 6 = some (.cells false false [.fn 47 [.ptr 2 0, .ptr 4 0, .ptr 5 0, .ptr 3 0, .ptr 6 0]])

theorem vis_bits {φ : Int → Option Int} {n : Nat} {w : List Int} (hw : w ∈ vis φ n []) : w.length = n ∧ ∀ j, j < n → nth w j = 0 ∨ nth w j = 1 := by
  obtain ⟨h1, h2⟩ := vis_mem φ n [] w hw (fun j hj => by simp at hj)
  simp only [List.length_nil, Nat.zero_add] at h1
  exact ⟨h1, fun j hj => h2 j (by omega)⟩
theorem sumEnv {p t : List (List Int)} (N : Net p t) (mapv : AV) (φ : Int → Option Int)
    (hlk : ∀ (b : Option Blk) (k : Int), lookB (some (.map 3 3)) (some (.int .i64)) (some (I 0)) mapv b true (I k) true = some (.tup [I ((φ k).getD 0), .bool (φ k).isSome])) :
    Env p t p.length 2 4 5 3 6 44 [.ptr 1 0, .ptr 0 0] mapv φ (vis φ p.length []) (SumG p t p.length mapv) := by
  refine ⟨fun g => g.len, fun g => g.b2, fun g => g.b4, fun g => g.b5, fun g => g.b3, fun g => g.b6, fun g k => hlk _ k, fun {d xs h} g i v hi => ?_, rfl, fun {d xs h} g w hw hx hT => ?_⟩
  · exact ⟨g.nx, by simpa using g.len, by simpa [Hp.put] using g.b0, by simpa [Hp.put] using g.b1, by simpa [Hp.put] using g.b2, by simpa [Hp.put] using g.b3, by simpa [Hp.put] using g.b4, by simp [Hp.put], by simpa [Hp.put] using g.b6⟩
  · suffices hh : ∃ v h', Shr Try.prog cfg 44 [.agg (xs.flatMap (e1 I)), .ptr 1 0, .ptr 0 0] h v h' ∧ (v = .tup [] ∧ SumG p t p.length mapv (d ++ [w]) xs h') by
      obtain ⟨v, h', hs, rfl, r⟩ := hh
      exact ⟨h', hs, r⟩
    have hmem : w ∈ vis φ p.length [] := by
      obtain ⟨r, hr⟩ := hT
      rw [← hr]; simp
    obtain ⟨hwl, hwb⟩ := vis_bits hmem
    have hdl : d.length < 1024 := by
      obtain ⟨r, hr⟩ := hT
      have h1 := congrArg List.length hr
      have h2 := vis_len φ p.length []
      have h3 : 2 ^ p.length ≤ 2 ^ 10 := Nat.pow_le_pow_right (by decide) N.n1.2
      simp only [List.length_append, List.length_singleton] at h1
      omega
    have hn1 := N.n1
    have hxl := g.len
    have hvals : Vals xs p.length := ⟨hxl, fun i hi => by rw [hx, ten_nth (by omega)]; exact hwb i hi⟩
    have kw := fun h h' K => k51 (h := h) (h' := h') (K := K) p t N xs hvals
    have hwx : weightB p t xs p.length = weightB p t w p.length := weight_congr N fun k hk => by rw [hx, ten_nth (by omega)]
    rw [hwx] at kw
    obtain ⟨s1, s2⟩ := sumW_bounds N d
    obtain ⟨w1, w2⟩ := weight_bounds N w (Nat.le_refl p.length)
    have w3 := pow16_le (Nat.le_refl p.length) N.n1.2
    have hal := fun h => allocB_flat (h := h) xs
    have hld := loadC_flat xs hxl
    have hb0 := g.b0
    have hb1 := g.b1
    have hnx := g.nx
    have n0 : ¬ 0 = h.nx := by omega
    have n1 : ¬ 1 = h.nx := by omega
    refine Shr_intro Try.func44 rfl ok73 (Nat.le_of_ble_eq_true rfl) ?_
    simp only [Try.f44, Option.getD_some, initSt3]
    simp (disch := first | (simp only [go_sem, Bool.and_self, eq_self]; done) | omega | (simp only [List.length_cons, List.length_nil]; omega)) only [go_sem, ↓reduceIte, Nat.reduceEqDiff, Nat.reduceAdd, Nat.reduceMul, Nat.reduceSub, Int.reduceToNat, Nat.reduceBEq, List.size_toArray, List.length_cons, List.length_nil, Bool.false_and, Bool.true_and, Bool.or_false, Bool.false_or, Bool.and_false, Bool.and_true, hal, hld, hb0, hb1, n0, n1, kw]
    have hbl : ∀ k, k < 7 → k ≠ 1 → (((h.alloc (.cells false false (xs.flatMap (e1 I)))).put 1 (some (.cells false false [AV.int IntKind.i64 (sumW p t d + weightB p t w p.length)]))).bl k = h.bl k) := by
      intro k h1 h2
      simp [Hp.put, Hp.alloc, h2, show ¬ k = h.nx by omega]
    refine ⟨by show 7 ≤ h.nx + 1; omega, hxl, (hbl 0 (by omega) (by omega)).trans g.b0, ?_, (hbl 2 (by omega) (by omega)).trans g.b2, (hbl 3 (by omega) (by omega)).trans g.b3, (hbl 4 (by omega) (by omega)).trans g.b4,
      (hbl 5 (by omega) (by omega)).trans g.b5, (hbl 6 (by omega) (by omega)).trans g.b6⟩
    rw [sumW_snoc]; rfl

/-- The values that a map gives. -/
def phi (es : List (Int × Int)) (k : Int) : Option Int := match es with
  | [] => none
  | (j, v) :: es => if k = j then some v else phi es k
theorem findK_phi (es : List (Int × Int)) (k : Int) : findK k (entF es) = (phi es k).map I := by
  induction es with
  | nil => rfl
  | cons p es ih =>
    obtain ⟨j, v⟩ := p
    simp only [entF, List.map_cons, findK, phi] at ih ⊢
    split
    · rfl
    · exact ih
abbrev mvE (es : List (Int × Int)) : AV := .mv ((entF es).map (·.1)) ((entF es).map (·.2))
theorem lk_phi (es : List (Int × Int)) (b : Option Blk) (k : Int) : lookB (some (.map 3 3)) (some (.int .i64)) (some (I 0)) (mvE es) b true (I k) true = some (.tup [I ((phi es k).getD 0), .bool (phi es k).isSome]) := by
  rw [lookB_mv _ _ _ _ _ _ _ _ _ rfl, findK_phi]
  cases phi es k <;> rfl

def sumB (p t : List (List Int)) (es : List (Int × Int)) : Int := sumW p t (vis (phi es) p.length [])
theorem sumB_bounds {p t : List (List Int)} (N : Net p t) (es : List (Int × Int)) : 0 ≤ sumB p t es ∧ sumB p t es ≤ 1125899906842624 := by
  have h1 := sumW_bounds N (vis (phi es) p.length [])
  have h2 := vis_len (phi es) p.length []
  have h3 : 2 ^ p.length ≤ 2 ^ 10 := Nat.pow_le_pow_right (by decide) N.n1.2
  unfold sumB; omega
theorem f55_con (p t : List (List Int)) (N : Net p t) (es : List (Int × Int)) : Con Try.prog cfg 28 [.agg [LLI p, LLI t, I p.length], mvE es] (I (sumB p t es)) := by
  have hal : ∀ g : Hp, allocB g (some (mvE es)) = some (.ptr g.nx 0, g.alloc (.cells false false [mvE es])) := fun _ => rfl
  let H : Hp := (((Hp.empty.alloc (.cells false false [LLI p, LLI t, I p.length])).alloc (.cells false false [I 0])).put 1 (some (.cells false false [I 0])))
  obtain ⟨h', hs, xs', hg⟩ := f64_shr (H := H) (sumEnv N (mvE es) (phi es) (lk_phi es)) N.n1.2 hal (fun h5 g1 g2 g3 g4 g5 g6 g7 => by
    refine ⟨by rw [g1]; show 7 ≤ 2 + 5; omega, rfl, (g2 0 (by show 0 < 2; omega)).trans (by simp [H, Hp.put, Hp.alloc, Hp.empty]), (g2 1 (by show 1 < 2; omega)).trans (by simp [H, Hp.put, sumW]), g3, g4, g5, g6, g7⟩)
  have hc := fun K => CallW_shr (K := K) 43 _ shr64 hs
  have hb1 := hg.b1
  refine Con_intro Try.func28 rfl ok55 (Nat.le_of_ble_eq_true rfl) rfl ?_
  simp only [Try.f28, Option.getD_some, initSt2]
  simp (disch := first | (simp only [go_sem, Bool.and_self, eq_self]; done) | omega | (simp only [List.length_cons, List.length_nil]; omega)) only [go_sem, ↓reduceIte, Nat.reduceEqDiff, Nat.reduceAdd, Nat.reduceMul, Nat.reduceSub, Int.reduceToNat, Nat.reduceBEq, List.size_toArray, List.length_cons, List.length_nil, Bool.false_and, Bool.true_and, Bool.or_false, Bool.false_or, Bool.and_false, Bool.and_true]
  refine Eq.mpr (hc _) ?_
  simp (disch := first | (simp only [go_sem, Bool.and_self, eq_self]; done) | omega | (simp only [List.length_cons, List.length_nil]; omega)) only [go_sem, ↓reduceIte, Nat.reduceEqDiff, Nat.reduceAdd, Nat.reduceMul, Nat.reduceSub, Int.reduceToNat, Nat.reduceBEq, List.size_toArray, List.length_cons, List.length_nil, Bool.false_and, Bool.true_and, Bool.or_false, Bool.false_or, Bool.and_false, Bool.and_true, hb1]
  rfl
theorem k55 (p t : List (List Int)) (N : Net p t) (es : List (Int × Int)) : ConW Try.prog cfg 28 h (some ([.agg [LLI p, LLI t, I p.length], mvE es], h')) K = K (I (sumB p t es)) h := ConW_num (f55_con p t N es) rfl

end Go.Proofs.Ytihnplomlphfjaa.B

set_option linter.unusedVariables false
set_option linter.unusedSimpArgs false
set_option maxRecDepth 10000
namespace Go.Proofs.Ytihnplomlphfjaa.B
open Go Go.Am

variable {h h' : Hp} {K : AV → Hp → Prop}

theorem CallW_shrE {g : FuncId} {args : List AV} {Q : AV → Hp → Prop} (hs : cfg.shared g = true) (he : ∃ v h', Shr Try.prog cfg g args h v h' ∧ Q v h') (hk : ∀ v h', Q v h' → K v h') : CallW Try.prog cfg g args h K := by
  obtain ⟨v, h', hsh, q⟩ := he
  rw [CallW_shr g args hs hsh]
  exact hk v h' q

theorem phi_append (es fs : List (Int × Int)) (k : Int) : phi (es ++ fs) k = (phi es k).or (phi fs k) := by
  induction es with
  | nil => simp [phi]
  | cons q es ih =>
    obtain ⟨j, v⟩ := q
    simp only [List.cons_append, phi]
    split
    · rfl
    · exact ih
/-- A fact that goes against the given ones. -/
def clashB (g f : List (Int × Int)) : Bool := f.any fun q => match phi g q.1 with | some y => !decide (y = q.2) | none => false
def chanceR (p t : List (List Int)) (f g : List (Int × Int)) : AV :=
  if netB p t && (factsB p.length f && factsB p.length g) then
    if sumB p t g = 0 then .tup [.agg [I 0, I 0], I 6]
    else if clashB g f then .tup [.agg [I 0, I 1], I 0]
    else .tup [redu (sumB p t (g ++ f)) (sumB p t g), I 0]
  else .tup [.agg [I 0, I 0], I 2]

theorem facts_keys {n : Int} {fs : List (Int × Int)} (h : factsB n fs = true) {i j : Nat} (hi : i < fs.length) (hj : j < fs.length) (he : (nth fs i).1 = (nth fs j).1) : i = j := by
  have key : ∀ i j, i < fs.length → j < i → (nth fs i).1 ≠ (nth fs j).1 := by
    intro i j hi hji he
    have := range_all h hi
    simp only [factB, Bool.and_eq_true] at this
    have h2 := range_all this.2 hji
    simp [he] at h2
  rcases Nat.lt_trichotomy i j with h1 | h1 | h1
  · exact absurd he.symm (key j i hj h1)
  · exact h1
  · exact absurd he (key i j hi h1)
theorem facts_phi {n : Int} {fs : List (Int × Int)} (h : factsB n fs = true) {k v : Int} (hm : (k, v) ∈ fs) : phi fs k = some v := by
  obtain ⟨i, hi, he⟩ := List.getElem_of_mem hm
  have key : ∀ (l : List (Int × Int)), (∀ q ∈ l, q.1 = k → q.2 = v) → (∃ q ∈ l, q.1 = k) → phi l k = some v := by
    intro l
    induction l with
    | nil => rintro _ ⟨q, hq, _⟩; cases hq
    | cons q l ih =>
      intro h1 h2
      obtain ⟨j, u⟩ := q
      simp only [phi]
      split
      · rename_i hkj
        have := h1 (j, u) List.mem_cons_self hkj.symm
        simp at this; rw [this]
      · rename_i hkj
        refine ih (fun q hq => h1 q (List.mem_cons_of_mem _ hq)) ?_
        obtain ⟨q, hq, hk⟩ := h2
        rcases List.mem_cons.1 hq with rfl | hq
        · exact absurd hk.symm hkj
        · exact ⟨q, hq, hk⟩
  refine key fs (fun q hq hk => ?_) ⟨(k, v), hm, rfl⟩
  obtain ⟨j, hj, he2⟩ := List.getElem_of_mem hq
  have : j = i := facts_keys h hj hi (by rw [nth_getElem hj, nth_getElem hi, he2, he]; exact hk)
  subst this
  rw [he] at he2
  rw [← he2]
theorem phi_mem {fs : List (Int × Int)} {k v : Int} (h : phi fs k = some v) : (k, v) ∈ fs := by
  induction fs with
  | nil => cases h
  | cons q l ih =>
    obtain ⟨j, u⟩ := q
    simp only [phi] at h
    split at h
    · rename_i hkj; cases h; rw [hkj]; exact List.mem_cons_self
    · exact List.mem_cons_of_mem _ (ih h)

theorem hext0 : ExtOk Try.prog cfg := fun _ _ _ h => by cases h

attribute [local irreducible] Go.Am.Sem
set_option maxHeartbeats 1000000 in
theorem f23_pure (p t : List (List Int)) (f g : List (Int × Int)) (hp : okLL p) (ht : okLL t) (hf : f.length ≤ maxLen) (hg : g.length ≤ maxLen) : PureOk Try.prog 12 [.agg [LLI p, LLI t], LP f, LP g] (chanceR p t f g) := by
  have kn := fun h h' K => k46 (h := h) (h' := h') (K := K) p t hp ht
  have n20 : ¬ (2 : Int) = 0 := by decide
  refine PureOk.of_Sem (ow := false) (kn := false) (body := Try.f12.body.getD .skip) Try.func12 rfl rfl (Nat.le_of_ble_eq_true rfl) ?_
  simp only [Try.f12, Option.getD_some, initSt3]
  refine Sem.seqW hext0 (by kernel_rfl) ?_
  simp (disch := first | (simp only [go_sem, Bool.and_self, eq_self]; done) | omega | (simp only [List.length_cons, List.length_nil]; omega)) only [go_sem, ↓reduceIte, Nat.reduceEqDiff, Nat.reduceAdd, Nat.reduceMul, Nat.reduceSub, Int.reduceToNat, Nat.reduceBEq, List.size_toArray, List.length_cons, List.length_nil, Bool.false_and, Bool.true_and, Bool.or_false, Bool.false_or, Bool.and_false, Bool.and_true]
  refine Sem.seqW hext0 (by kernel_rfl) ?_
  cases h1 : netB p t with
  | false =>
    have hr : chanceR p t f g = .tup [.agg [I 0, I 0], I 2] := by simp [chanceR, h1]
    simp (disch := first | (simp only [go_sem, Bool.and_self, eq_self]; done) | omega | (simp only [List.length_cons, List.length_nil]; omega)) only [go_sem, ↓reduceIte, Nat.reduceEqDiff, Nat.reduceAdd, Nat.reduceMul, Nat.reduceSub, Int.reduceToNat, Nat.reduceBEq, List.size_toArray, List.length_cons, List.length_nil, Bool.false_and, Bool.true_and, Bool.or_false, Bool.false_or, Bool.and_false, Bool.and_true, kn, netR_f h1]
    refine Sem.seqW hext0 (by kernel_rfl) ?_
    simp (disch := first | (simp only [go_sem, Bool.and_self, eq_self]; done) | omega | (simp only [List.length_cons, List.length_nil]; omega)) only [go_sem, ↓reduceIte, Nat.reduceEqDiff, Nat.reduceAdd, Nat.reduceMul, Nat.reduceSub, Int.reduceToNat, Nat.reduceBEq, List.size_toArray, List.length_cons, List.length_nil, Bool.false_and, Bool.true_and, Bool.or_false, Bool.false_or, Bool.and_false, Bool.and_true, n20, hr]
  | true =>
  have N := Net.of h1
  have hn1 := N.n1
  simp (disch := first | (simp only [go_sem, Bool.and_self, eq_self]; done) | omega | (simp only [List.length_cons, List.length_nil]; omega)) only [go_sem, ↓reduceIte, Nat.reduceEqDiff, Nat.reduceAdd, Nat.reduceMul, Nat.reduceSub, Int.reduceToNat, Nat.reduceBEq, List.size_toArray, List.length_cons, List.length_nil, Bool.false_and, Bool.true_and, Bool.or_false, Bool.false_or, Bool.and_false, Bool.and_true, kn, netR_t h1]
  refine Sem.seqW hext0 (by kernel_rfl) ?_
  simp (disch := first | (simp only [go_sem, Bool.and_self, eq_self]; done) | omega | (simp only [List.length_cons, List.length_nil]; omega)) only [go_sem, ↓reduceIte, Nat.reduceEqDiff, Nat.reduceAdd, Nat.reduceMul, Nat.reduceSub, Int.reduceToNat, Nat.reduceBEq, List.size_toArray, List.length_cons, List.length_nil, Bool.false_and, Bool.true_and, Bool.or_false, Bool.false_or, Bool.and_false, Bool.and_true]
  refine Sem.seqW hext0 (by kernel_rfl) ?_
  simp (disch := first | (simp only [go_sem, Bool.and_self, eq_self]; done) | omega | (simp only [List.length_cons, List.length_nil]; omega)) only [go_sem, ↓reduceIte, Nat.reduceEqDiff, Nat.reduceAdd, Nat.reduceMul, Nat.reduceSub, Int.reduceToNat, Nat.reduceBEq, List.size_toArray, List.length_cons, List.length_nil, Bool.false_and, Bool.true_and, Bool.or_false, Bool.false_or, Bool.and_false, Bool.and_true]
  refine CallW_shrE shr54 (f54_shr p t p.length (by omega) f hf _) ?_
  rintro v hA ⟨nA, fA, cA⟩
  have a1 := fA 1 (by show 1 < 3; omega)
  have a2 := fA 2 (by show 2 < 3; omega)
  simp (disch := first | (simp only [go_sem, Bool.and_self, eq_self]; done) | omega | (simp only [List.length_cons, List.length_nil]; omega)) only [go_sem, ↓reduceIte, Nat.reduceEqDiff, Nat.reduceAdd, Nat.reduceMul, Nat.reduceSub, Int.reduceToNat, Nat.reduceBEq, List.size_toArray, List.length_cons, List.length_nil, Bool.false_and, Bool.true_and, Bool.or_false, Bool.false_or, Bool.and_false, Bool.and_true] at a1 a2 nA cA
  clear fA
  have en : ∀ (v : AV) (b : Bool), True := fun _ _ => trivial
  have hvA : ∃ m b, v = .tup [m, .bool b] ∧ b = factsB p.length f ∧ (b = true → m = .mp 4 ∧ 4 < hA.nx ∧ hA.bl 4 = some (.mp false (entF f))) := by
    rcases cA with ⟨q1, q2, q3, q4⟩ | ⟨q1, q2⟩
    · exact ⟨_, _, q2, q1.symm, fun _ => ⟨rfl, q3, q4⟩⟩
    · exact ⟨_, _, q2, q1.symm, fun h => by cases h⟩
  clear cA
  obtain ⟨mA, bA, rfl, hbA, cA⟩ := hvA
  simp (disch := first | (simp only [go_sem, Bool.and_self, eq_self]; done) | omega | (simp only [List.length_cons, List.length_nil]; omega)) only [go_sem, ↓reduceIte, Nat.reduceEqDiff, Nat.reduceAdd, Nat.reduceMul, Nat.reduceSub, Int.reduceToNat, Nat.reduceBEq, List.size_toArray, List.length_cons, List.length_nil, Bool.false_and, Bool.true_and, Bool.or_false, Bool.false_or, Bool.and_false, Bool.and_true]
  refine Sem.seqW hext0 (by kernel_rfl) ?_
  simp (disch := first | (simp only [go_sem, Bool.and_self, eq_self]; done) | omega | (simp only [List.length_cons, List.length_nil]; omega)) only [go_sem, ↓reduceIte, Nat.reduceEqDiff, Nat.reduceAdd, Nat.reduceMul, Nat.reduceSub, Int.reduceToNat, Nat.reduceBEq, List.size_toArray, List.length_cons, List.length_nil, Bool.false_and, Bool.true_and, Bool.or_false, Bool.false_or, Bool.and_false, Bool.and_true, a2]
  refine CallW_shrE shr54 (f54_shr p t p.length (by omega) g hg hA) ?_
  rintro v hB ⟨nB, fB, cB⟩
  have b1 := (fB 1 (by omega)).trans a1
  have b2 := (fB 2 (by omega)).trans a2
  have hvB : ∃ m b, v = .tup [m, .bool b] ∧ b = factsB p.length g ∧ (b = true → m = .mp (hA.nx + 1) ∧ hA.nx + 1 < hB.nx ∧ hB.bl (hA.nx + 1) = some (.mp false (entF g))) := by
    rcases cB with ⟨q1, q2, q3, q4⟩ | ⟨q1, q2⟩
    · exact ⟨_, _, q2, q1.symm, fun _ => ⟨rfl, q3, q4⟩⟩
    · exact ⟨_, _, q2, q1.symm, fun h => by cases h⟩
  clear cB
  obtain ⟨mB, bB, rfl, hbB, cB⟩ := hvB
  simp (disch := first | (simp only [go_sem, Bool.and_self, eq_self]; done) | omega | (simp only [List.length_cons, List.length_nil]; omega)) only [go_sem, ↓reduceIte, Nat.reduceEqDiff, Nat.reduceAdd, Nat.reduceMul, Nat.reduceSub, Int.reduceToNat, Nat.reduceBEq, List.size_toArray, List.length_cons, List.length_nil, Bool.false_and, Bool.true_and, Bool.or_false, Bool.false_or, Bool.and_false, Bool.and_true]
  refine Sem.seqW hext0 (by kernel_rfl) ?_
  cases bA with
  | false =>
    have hr : chanceR p t f g = .tup [.agg [I 0, I 0], I 2] := by simp [chanceR, ← hbA]
    simp (disch := first | (simp only [go_sem, Bool.and_self, eq_self]; done) | omega | (simp only [List.length_cons, List.length_nil]; omega)) only [go_sem, ↓reduceIte, Nat.reduceEqDiff, Nat.reduceAdd, Nat.reduceMul, Nat.reduceSub, Int.reduceToNat, Nat.reduceBEq, List.size_toArray, List.length_cons, List.length_nil, Bool.false_and, Bool.true_and, Bool.or_false, Bool.false_or, Bool.and_false, Bool.and_true, b1, hr]
  | true =>
  cases bB with
  | false =>
    have hr : chanceR p t f g = .tup [.agg [I 0, I 0], I 2] := by simp [chanceR, ← hbB]
    simp (disch := first | (simp only [go_sem, Bool.and_self, eq_self]; done) | omega | (simp only [List.length_cons, List.length_nil]; omega)) only [go_sem, ↓reduceIte, Nat.reduceEqDiff, Nat.reduceAdd, Nat.reduceMul, Nat.reduceSub, Int.reduceToNat, Nat.reduceBEq, List.size_toArray, List.length_cons, List.length_nil, Bool.false_and, Bool.true_and, Bool.or_false, Bool.false_or, Bool.and_false, Bool.and_true, b1, hr]
  | true =>
  obtain ⟨rfl, lA, mpA⟩ := cA rfl
  obtain ⟨rfl, lB, mpB⟩ := cB rfl
  have mpA' := (fB 4 lA).trans mpA
  simp (disch := first | (simp only [go_sem, Bool.and_self, eq_self]; done) | omega | (simp only [List.length_cons, List.length_nil]; omega)) only [go_sem, ↓reduceIte, Nat.reduceEqDiff, Nat.reduceAdd, Nat.reduceMul, Nat.reduceSub, Int.reduceToNat, Nat.reduceBEq, List.size_toArray, List.length_cons, List.length_nil, Bool.false_and, Bool.true_and, Bool.or_false, Bool.false_or, Bool.and_false, Bool.and_true]
  refine Sem.seqW hext0 (by kernel_rfl) ?_
  have hse : sealA hB (.mp (hA.nx + 1)) = some (mvE g, hB.put (hA.nx + 1) (some (.mp true (entF g)))) := by
    have hpu : AV.pureL ((entF g).map (·.2)) = true := by
      generalize g = l
      induction l with
      | nil => rfl
      | cons q l ih => simpa [entF, AV.pureL, AV.isPure] using ih
    show sealV0 hB (.mp (hA.nx + 1)) = _
    simp only [sealV0, AV.isPure, mpB, hpu]
    simp
  have ks := fun h h' K => k55 (h := h) (h' := h') (K := K) p t N g
  simp (disch := first | (simp only [go_sem, Bool.and_self, eq_self]; done) | omega | (simp only [List.length_cons, List.length_nil]; omega)) only [go_sem, ↓reduceIte, Nat.reduceEqDiff, Nat.reduceAdd, Nat.reduceMul, Nat.reduceSub, Int.reduceToNat, Nat.reduceBEq, List.size_toArray, List.length_cons, List.length_nil, Bool.false_and, Bool.true_and, Bool.or_false, Bool.false_or, Bool.and_false, Bool.and_true, b2, hse, ks]
  refine Sem.seqW hext0 (by kernel_rfl) ?_
  obtain ⟨z0, z1⟩ := sumB_bounds N g
  by_cases hz : sumB p t g = 0
  · have hr : chanceR p t f g = .tup [.agg [I 0, I 0], I 6] := by simp [chanceR, h1, ← hbA, ← hbB, hz]
    simp (disch := first | (simp only [go_sem, Bool.and_self, eq_self]; done) | omega | (simp only [List.length_cons, List.length_nil]; omega)) only [go_sem, ↓reduceIte, Nat.reduceEqDiff, Nat.reduceAdd, Nat.reduceMul, Nat.reduceSub, Int.reduceToNat, Nat.reduceBEq, List.size_toArray, List.length_cons, List.length_nil, Bool.false_and, Bool.true_and, Bool.or_false, Bool.false_or, Bool.and_false, Bool.and_true, hz, b1, hr]
  simp (disch := first | (simp only [go_sem, Bool.and_self, eq_self]; done) | omega | (simp only [List.length_cons, List.length_nil]; omega)) only [go_sem, ↓reduceIte, Nat.reduceEqDiff, Nat.reduceAdd, Nat.reduceMul, Nat.reduceSub, Int.reduceToNat, Nat.reduceBEq, List.size_toArray, List.length_cons, List.length_nil, Bool.false_and, Bool.true_and, Bool.or_false, Bool.false_or, Bool.and_false, Bool.and_true, hz]
  have hlA : hA.nx + 1 < hB.nx := lB
  refine Sem.seq ?_
  refine (Sem.rangeMap (P := Try.prog) (n := 81) und90 mpA' (by simp (disch := first | (simp only [go_sem, Bool.and_self, eq_self]; done) | omega | (simp only [List.length_cons, List.length_nil]; omega)) only [go_sem, ↓reduceIte, Nat.reduceEqDiff, Nat.reduceAdd, Nat.reduceMul, Nat.reduceSub, Int.reduceToNat, Nat.reduceBEq, List.size_toArray, List.length_cons, List.length_nil, Bool.false_and, Bool.true_and, Bool.or_false, Bool.false_or, Bool.and_false, Bool.and_true]) (by decide) (by decide) (by decide) (by decide) (by decide) (by decide) (by decide) (by decide) (by decide)
    (by decide) (by decide) (by decide) (by decide) (by decide) (by decide) (by decide) (by decide) (by decide) (by decide)
    (fun D st h => st 6 = .ptr 1 0 ∧ st 7 = I 0 ∧ st 8 = .ptr 2 0 ∧ st 12 = .mp (hA.nx + 1) ∧ st 14 = I (sumB p t g) ∧ st 54 = .ptr hB.nx 0 ∧ h.bl hB.nx = some .it ∧ h.bl 1 = some (.cells false false [I 0, I 0]) ∧ h.bl 2 = some (.cells false false [LLI p, LLI t, I p.length]) ∧
      ∃ es, h.bl (hA.nx + 1) = some (.mp false (entF es)) ∧ (∀ k v, phi es k = some v → phi g k = some v ∨ (phi g k = none ∧ (k, I v) ∈ D)) ∧ (∀ k y, phi g k = some y → phi es k = some y) ∧ (∀ k v, (k, I v) ∈ D → phi es k = some v))
    ?_ ?_ ?_ ?_)
  · rintro D st h ⟨_, _, _, _, _, s54, bi, _⟩
    exact ⟨s54, bi⟩
  · refine ⟨by simp (disch := first | (simp only [go_sem, Bool.and_self, eq_self]; done) | omega | (simp only [List.length_cons, List.length_nil]; omega)) only [go_sem, ↓reduceIte, Nat.reduceEqDiff, Nat.reduceAdd, Nat.reduceMul, Nat.reduceSub, Int.reduceToNat, Nat.reduceBEq, List.size_toArray, List.length_cons, List.length_nil, Bool.false_and, Bool.true_and, Bool.or_false, Bool.false_or, Bool.and_false, Bool.and_true], by simp (disch := first | (simp only [go_sem, Bool.and_self, eq_self]; done) | omega | (simp only [List.length_cons, List.length_nil]; omega)) only [go_sem, ↓reduceIte, Nat.reduceEqDiff, Nat.reduceAdd, Nat.reduceMul, Nat.reduceSub, Int.reduceToNat, Nat.reduceBEq, List.size_toArray, List.length_cons, List.length_nil, Bool.false_and, Bool.true_and, Bool.or_false, Bool.false_or, Bool.and_false, Bool.and_true], by simp (disch := first | (simp only [go_sem, Bool.and_self, eq_self]; done) | omega | (simp only [List.length_cons, List.length_nil]; omega)) only [go_sem, ↓reduceIte, Nat.reduceEqDiff, Nat.reduceAdd, Nat.reduceMul, Nat.reduceSub, Int.reduceToNat, Nat.reduceBEq, List.size_toArray, List.length_cons, List.length_nil, Bool.false_and, Bool.true_and, Bool.or_false, Bool.false_or, Bool.and_false, Bool.and_true], by simp (disch := first | (simp only [go_sem, Bool.and_self, eq_self]; done) | omega | (simp only [List.length_cons, List.length_nil]; omega)) only [go_sem, ↓reduceIte, Nat.reduceEqDiff, Nat.reduceAdd, Nat.reduceMul, Nat.reduceSub, Int.reduceToNat, Nat.reduceBEq, List.size_toArray, List.length_cons, List.length_nil, Bool.false_and, Bool.true_and, Bool.or_false, Bool.false_or, Bool.and_false, Bool.and_true], by simp (disch := first | (simp only [go_sem, Bool.and_self, eq_self]; done) | omega | (simp only [List.length_cons, List.length_nil]; omega)) only [go_sem, ↓reduceIte, Nat.reduceEqDiff, Nat.reduceAdd, Nat.reduceMul, Nat.reduceSub, Int.reduceToNat, Nat.reduceBEq, List.size_toArray, List.length_cons, List.length_nil, Bool.false_and, Bool.true_and, Bool.or_false, Bool.false_or, Bool.and_false, Bool.and_true], by simp (disch := first | (simp only [go_sem, Bool.and_self, eq_self]; done) | omega | (simp only [List.length_cons, List.length_nil]; omega)) only [go_sem, ↓reduceIte, Nat.reduceEqDiff, Nat.reduceAdd, Nat.reduceMul, Nat.reduceSub, Int.reduceToNat, Nat.reduceBEq, List.size_toArray, List.length_cons, List.length_nil, Bool.false_and, Bool.true_and, Bool.or_false, Bool.false_or, Bool.and_false, Bool.and_true], by simp [Hp.put, Hp.alloc], ?_, ?_, g, ?_, fun k v h => .inl h, fun k y h => h, fun k v h => by cases h⟩
    · simp [Hp.put, Hp.alloc, show ¬ 1 = hB.nx by omega, b1]
    · simp [Hp.put, Hp.alloc, show ¬ 2 = hB.nx by omega, b2]
    · simp [Hp.put, Hp.alloc, show ¬ hA.nx + 1 = hB.nx by omega, show ¬ hA.nx + 1 = 4 by omega, mpB]
  · rintro D key val st h ⟨s6, s7, s8, s12, s14, s54, bi, c1, c2, es, ce, e1', e2', e3'⟩ hD hmem
    obtain ⟨⟨k, v⟩, hkv, hkv2⟩ := List.mem_map.1 hmem
    simp only [Prod.mk.injEq] at hkv2
    obtain ⟨rfl, rfl⟩ := hkv2
    have hlk := lookB_one 3 3 .i64 (I 0) (hA.nx + 1) false (entF es) k true rfl
    rw [findK_phi] at hlk
    have hfk : findK k (entF es) = (phi es k).map I := findK_phi es k
    refine Sem.mono (Sem.of_WP (cfg := cfg) hext0 (by kernel_rfl) (R := RoundK 1 (fun st h => st 6 = .ptr 1 0 ∧ st 7 = I 0 ∧ st 8 = .ptr 2 0 ∧ st 12 = .mp (hA.nx + 1) ∧ st 14 = I (sumB p t g) ∧ st 54 = .ptr hB.nx 0 ∧ h.bl hB.nx = some .it ∧ h.bl 1 = some (.cells false false [I 0, I 0]) ∧ h.bl 2 = some (.cells false false [LLI p, LLI t, I p.length]) ∧
      ∃ es, h.bl (hA.nx + 1) = some (.mp false (entF es)) ∧ (∀ k' v', phi es k' = some v' → phi g k' = some v' ∨ (phi g k' = none ∧ (k', I v') ∈ D ++ [(k, I v)])) ∧ (∀ k' y, phi g k' = some y → phi es k' = some y) ∧ (∀ k' v', (k', I v') ∈ D ++ [(k, I v)] → phi es k' = some v')) _) ?_) (fun x st h r => r.2)
    have rn : ∀ {J : St → Hp → Prop} {R : Exit → St → Hp → Prop} {st h}, RoundK 1 J R .normal st h = J st h := rfl
    have rr : ∀ {J : St → Hp → Prop} {R : Exit → St → Hp → Prop} {st h}, RoundK 1 J R .ret st h = R .ret st h := rfl
    have same : ∀ k' v', (k', I v') ∈ D → k' = k → v' = v := by
      intro k' v' hm he
      subst he
      have h1 := hD _ hm
      obtain ⟨⟨k2, v2⟩, hkv2, he2⟩ := List.mem_map.1 h1
      simp only [Prod.mk.injEq] at he2
      obtain ⟨rfl, he3⟩ := he2
      have : v2 = v' := by injection he3
      subst this
      have g1 := facts_phi hbA.symm hkv
      have g2 := facts_phi hbA.symm hkv2
      rw [g1] at g2; cases g2; rfl
    cases hph : phi es k with
    | none =>
      rw [hph] at hlk hfk
      simp only [Option.map_none, Option.getD_none, Option.isSome_none] at hlk hfk
      have hno : ∀ q ∈ entF es, q.1 ≠ k := by
        intro q hq he
        have := findK_some (es := entF es) (k := k) ⟨q, hq, he⟩
        rw [hfk] at this; cases this
      have hpk : putK k (I v) (entF es) = entF (es ++ [(k, v)]) := by rw [putK_none hno]; simp [entF]
      have hgk : phi g k = none := by
        cases hgk : phi g k with
        | none => rfl
        | some y => rw [e2' k y hgk] at hph; cases hph
      simp (disch := first | (simp only [go_sem, Bool.and_self, eq_self]; done) | omega | (simp only [List.length_cons, List.length_nil]; omega)) only [go_sem, ↓reduceIte, Nat.reduceEqDiff, Nat.reduceAdd, Nat.reduceMul, Nat.reduceSub, Int.reduceToNat, Nat.reduceBEq, List.size_toArray, List.length_cons, List.length_nil, Bool.false_and, Bool.true_and, Bool.or_false, Bool.false_or, Bool.and_false, Bool.and_true, s12, ce, hlk, hpk, rn]
      refine ⟨s6, s7, s8, s14, s54, ?_, ?_, ?_, es ++ [(k, v)], rfl, fun k' v' hh => ?_, fun k' y hh => ?_, fun k' v' hh => ?_⟩
      · rw [if_neg (by omega)]; exact bi
      · rw [if_neg (by omega)]; exact c1
      · rw [if_neg (by omega)]; exact c2
      · rw [phi_append] at hh
        cases hq : phi es k' with
        | some y =>
          rw [hq] at hh
          simp only [Option.some_or, Option.some.injEq] at hh
          subst hh
          rcases e1' k' y hq with r | ⟨r1, r2⟩
          · exact .inl r
          · exact .inr ⟨r1, List.mem_append_left _ r2⟩
        | none =>
          rw [hq] at hh
          simp only [Option.none_or, phi] at hh
          split at hh
          · rename_i he; cases hh; subst he; exact .inr ⟨hgk, by simp⟩
          · cases hh
      · rw [phi_append, e2' k' y hh]; rfl
      · rw [phi_append]
        rcases List.mem_append.1 hh with hh | hh
        · rw [e3' k' v' hh]; rfl
        · simp only [List.mem_singleton, Prod.mk.injEq] at hh
          obtain ⟨rfl, hv⟩ := hh
          have : v' = v := by injection hv
          subst this
          rw [hph]; simp [phi]
    | some y =>
      rw [hph] at hlk hfk
      simp only [Option.map_some, Option.getD_some, Option.isSome_some] at hlk hfk
      by_cases hy : y = v
      · subst hy
        have hpk : putK k (I y) (entF es) = entF es := by
          clear hlk ce e1' e2' e3' hph
          generalize entF es = l at hfk ⊢
          induction l with
          | nil => cases hfk
          | cons q l ih =>
            obtain ⟨j, u⟩ := q
            simp only [findK] at hfk
            simp only [putK]
            split at hfk
            · rename_i he; cases hfk; rw [if_pos he, he]
            · rename_i he; rw [if_neg he, ih hfk]
        simp (disch := first | (simp only [go_sem, Bool.and_self, eq_self]; done) | omega | (simp only [List.length_cons, List.length_nil]; omega)) only [go_sem, ↓reduceIte, Nat.reduceEqDiff, Nat.reduceAdd, Nat.reduceMul, Nat.reduceSub, Int.reduceToNat, Nat.reduceBEq, List.size_toArray, List.length_cons, List.length_nil, Bool.false_and, Bool.true_and, Bool.or_false, Bool.false_or, Bool.and_false, Bool.and_true, s12, ce, hlk, hpk, rn]
        refine ⟨s6, s7, s8, s14, s54, ?_, ?_, ?_, es, rfl, fun k' v' hh => ?_, e2', fun k' v' hh => ?_⟩
        · rw [if_neg (by omega)]; exact bi
        · rw [if_neg (by omega)]; exact c1
        · rw [if_neg (by omega)]; exact c2
        · rcases e1' k' v' hh with r | ⟨r1, r2⟩
          · exact .inl r
          · exact .inr ⟨r1, List.mem_append_left _ r2⟩
        · rcases List.mem_append.1 hh with hh | hh
          · exact e3' k' v' hh
          · simp only [List.mem_singleton, Prod.mk.injEq] at hh
            obtain ⟨rfl, hv⟩ := hh
            have : v' = y := by injection hv
            subst this
            exact hph
      · have hgk : phi g k = some y := by
          rcases e1' k y hph with r | ⟨r1, r2⟩
          · exact r
          · exact absurd (same k y r2 rfl) hy
        have hcl : clashB g f = true := List.any_eq_true.2 ⟨(k, v), hkv, by simp [hgk, hy]⟩
        have hr : chanceR p t f g = .tup [.agg [I 0, I 1], I 0] := by simp [chanceR, h1, ← hbA, ← hbB, hz, hcl]
        simp (disch := first | (simp only [go_sem, Bool.and_self, eq_self]; done) | omega | (simp only [List.length_cons, List.length_nil]; omega)) only [go_sem, ↓reduceIte, Nat.reduceEqDiff, Nat.reduceAdd, Nat.reduceMul, Nat.reduceSub, Int.reduceToNat, Nat.reduceBEq, List.size_toArray, List.length_cons, List.length_nil, Bool.false_and, Bool.true_and, Bool.or_false, Bool.false_or, Bool.and_false, Bool.and_true, s6, s12, ce, hlk, hy, c1, rr, hr]

        exact trivial
  · rintro D st h ⟨s6, s7, s8, s12, s14, s54, bi, c1, c2, es, ce, e1', e2', e3'⟩ hD hall
    refine ⟨trivial, ?_⟩
    have hin : ∀ k v, (k, v) ∈ f → (k, I v) ∈ D := fun k v hm => hall _ (List.mem_map.2 ⟨(k, v), hm, rfl⟩)
    have hphi : phi es = phi (g ++ f) := by
      funext k
      rw [phi_append]
      cases hgk : phi g k with
      | some y => rw [e2' k y hgk]; rfl
      | none =>
        rw [Option.none_or]
        cases hfk : phi f k with
        | some v => exact e3' k v (hin k v (phi_mem hfk))
        | none =>
          cases hek : phi es k with
          | none => rfl
          | some v =>
            rcases e1' k v hek with r | ⟨_, r⟩
            · rw [hgk] at r; cases r
            · obtain ⟨⟨k2, v2⟩, hkv2, he2⟩ := List.mem_map.1 (hD _ r)
              simp only [Prod.mk.injEq] at he2
              obtain ⟨rfl, _⟩ := he2
              have := facts_phi hbA.symm hkv2
              rw [hfk] at this; cases this
    have hcl : clashB g f = false := by
      rw [clashB, List.any_eq_false]
      rintro ⟨k, v⟩ hm
      have h1 := e3' k v (hin k v hm)
      cases hgk : phi g k with
      | none => simp
      | some y =>
        have := e2' k y hgk
        rw [h1] at this; cases this
        simp
    have hsb : sumB p t es = sumB p t (g ++ f) := by simp only [sumB, hphi]
    have hr : chanceR p t f g = .tup [redu (sumB p t (g ++ f)) (sumB p t g), I 0] := by simp [chanceR, h1, ← hbA, ← hbB, hz, hcl]
    have hse : sealA h (.mp (hA.nx + 1)) = some (mvE es, h.put (hA.nx + 1) (some (.mp true (entF es)))) := by
      have hpu : AV.pureL ((entF es).map (·.2)) = true := by
        generalize es = l
        induction l with
        | nil => rfl
        | cons q l ih => simpa [entF, AV.pureL, AV.isPure] using ih
      show sealV0 h (.mp (hA.nx + 1)) = _
      simp only [sealV0, AV.isPure, ce, hpu]
      simp
    have ks := fun h h' K => k55 (h := h) (h' := h') (K := K) p t N es
    obtain ⟨y0, y1⟩ := sumB_bounds N es
    have kr := fun h h' K => k50 (h := h) (h' := h') (K := K) (sumB p t es) (sumB p t g) ⟨y0, by omega⟩ ⟨by omega, by omega⟩
    rw [← hsb] at hr
    refine Sem.mono (Sem.of_WP (cfg := cfg) hext0 (by kernel_rfl) (R := RetK Try.prog false false Try.f12.results.toList Try.f12.resultTypes.toList (chanceR p t f g)) ?_) (fun x st h r => r.2)
    simp only [Try.f12]
    simp (disch := first | (simp only [go_sem, Bool.and_self, eq_self]; done) | omega | (simp only [List.length_cons, List.length_nil]; omega)) only [go_sem, ↓reduceIte, Nat.reduceEqDiff, Nat.reduceAdd, Nat.reduceMul, Nat.reduceSub, Int.reduceToNat, Nat.reduceBEq, List.size_toArray, List.length_cons, List.length_nil, Bool.false_and, Bool.true_and, Bool.or_false, Bool.false_or, Bool.and_false, Bool.and_true, s6, s7, s8, s12, s14, c1, c2, hse, ks, kr, hr]

end Go.Proofs.Ytihnplomlphfjaa.B
